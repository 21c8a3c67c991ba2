/- 'garnerlaw22.ClientSure': whatever the input: true; the input reads as it did. Conditions: those of the given row alone. -/
import Derived.Test.YtgmpfngapfdpmaaGreatDoorKnownZ
import Derived.Test.YtgmpfngapfdpmaaGreatDoorRows
import Derived.Test.YtgmpfngapfdpmaaGreatDoorCards
import Derived.Test.YtgmpfngapfdpmaaGreatDoorTie
import Derived.WalkKit
import Derived.ProofKit
import Derived.OpenShut
import Derived.ShutString
import Derived.ChangeOld
import Derived.Below
import Derived.Carry
import Derived.SevenTiedAt
import Derived.LaidMore
import Derived.Stop.Joined
import Derived.Lib.SmallJoins
namespace Go.Proofs.YtgmpfngapfdpmaaGreatDoor.clientSure
open Go.ChangeShapes Go.WideShapes Go.ChangeAt Go.RowKit Go.Sx Go.Joins

def i (n : Nat) : AV := .int .i64 (.var n)
def fid : AV := .agg [i 0, .int .u64 (.var 1), .int .u32 (.var 2)]
noncomputable def run (R : Ranges) (x : AV) (s : AS) (z : Bool) : Bool := tells (evCall Tryz.prog R 2000 ov 30 6 [fid, x, .bool z] s)
noncomputable def s1 : AS := ⟨Tr.set (.rdata 0) 24 .nil 0, 1⟩

theorem r1 (z : Bool) : run [(0, -9223372036854775808, 0)] (.argl 4) ⟨.nil, 0⟩ z = true := by cases z <;> kernel_rfl
theorem r2 (z : Bool) : run [(0, 100000000, 9223372036854775807)] (.argl 4) ⟨.nil, 0⟩ z = true := by cases z <;> kernel_rfl
theorem r3 (z : Bool) : run [(0, 1, 99999999), (1, 0, 0)] (.argl 4) ⟨.nil, 0⟩ z = true := by cases z <;> kernel_rfl
theorem r4 (z : Bool) : run [(0, 1, 99999999), (1, 4611686018427387905, 18446744073709551615)] (.argl 4) ⟨.nil, 0⟩ z = true := by cases z <;> kernel_rfl
theorem r5 (z : Bool) : run [(0, 1, 99999999), (1, 1, 4611686018427387904), (4, 1001, 9223372036854775807)] (.argl 4) ⟨.nil, 0⟩ z = true := by cases z <;> kernel_rfl
theorem m1 (z : Bool) : run [(0, 1, 99999999), (1, 1, 4611686018427387904), (2, 0, 4294967295)] .nilsl ⟨.nil, 0⟩ z = true := by cases z <;> kernel_rfl
theorem m2 (z : Bool) : run [(0, 1, 99999999), (1, 1, 4611686018427387904), (2, 0, 4294967295)] .argz ⟨.nil, 0⟩ z = true := by cases z <;> kernel_rfl
theorem m3 (z : Bool) : run [(0, 1, 99999999), (1, 1, 4611686018427387904), (2, 0, 4294967295), (1000, 0, 1000)] (.arg 0 0) s1 z = true := by cases z <;> kernel_rfl

theorem walk (v k c : Int) (x : Value) (z : Bool) (wv : (Lit.int .i64 v).wf = true) (wk : (Lit.int .u64 k).wf = true) (wc : (Lit.int .u32 c).wf = true) (w : World) (hx : ArgRow w x) :
    Calls Tryz.prog 6 #[.agg #[.int .i64 v, .int .u64 k, .int .u32 c], x, .bool z] w fun r w' => r = .returned (.bool true) ∧ Below w.heap.size w w' := by
  obtain ⟨n, a, cp, hxn, hn⟩ := hx.len
  have hI : ∀ j, j < 1000 → (Fix.ints [v, k, c, 0, n]).ρ j = ([v, k, c, 0, (n : Int)] : List Int).getD j 0 := fun j hj => Fix.ints_int _ _ hj
  have key : ∀ R y, (y = .argl 4 ∨ (y = .nilsl ∧ x = .slice none 0 0) ∨ (y = .argz ∧ ∃ a c, x = .slice (some a) 0 c)) → run R y ⟨.nil, 0⟩ z = true → RangesOf (Fix.ints [v, k, c, 0, n]).ρ R → Calls Tryz.prog 6 #[.agg #[.int .i64 v, .int .u64 k, .int .u32 c], x, .bool z] w fun r w' => r = .returned (.bool true) ∧ Below w.heap.size w w' := fun R y hy hr hR =>
    said (F := Fix.ints [v, k, c, 0, n]) (rangeOK_of hR) w (ov_ok _ _ _) hr [.agg #[.int .i64 v, .int .u64 k, .int .u32 c], x, .bool z]
      (by rcases hy with rfl | ⟨rfl, hx⟩ | ⟨rfl, hx⟩
          · subst hxn; simp [VRs, VR, fid, i, SI.val, hI _ (show (0:Nat) < 1000 by omega), hI _ (show (1:Nat) < 1000 by omega), hI _ (show (2:Nat) < 1000 by omega), hI _ (show (4:Nat) < 1000 by omega)]
          · simp [VRs, VR, fid, i, SI.val, hI _ (show (0:Nat) < 1000 by omega), hI _ (show (1:Nat) < 1000 by omega), hI _ (show (2:Nat) < 1000 by omega), hx]
          · simp [VRs, VR, fid, i, SI.val, hI _ (show (0:Nat) < 1000 by omega), hI _ (show (1:Nat) < 1000 by omega), hI _ (show (2:Nat) < 1000 by omega), hx])
  simp [Lit.wf, IntKind.min, IntKind.max, IntKind.bits, IntKind.signed] at wv wk wc
  have hn' : n ≤ 9223372036854775807 := by unfold maxLen at hn; omega
  have fin : ∀ R, (∀ q ∈ R, q.1 < 1000) → RangesOf (fun i => ([v, k, c, 0, (n : Int)] : List Int).getD i 0) R → RangesOf (Fix.ints [v, k, c, 0, n]).ρ R := by
    intro R
    induction R with
    | nil => intro _ _; trivial
    | cons q R ih =>
      intro hq h
      obtain ⟨j, lo, hi⟩ := q
      exact ⟨by rw [Fix.ints_int _ _ (hq _ (List.mem_cons_self))]; exact h.1, ih (fun q h => hq q (List.mem_cons_of_mem _ h)) h.2⟩
  by_cases h1 : v ≤ 0
  · exact key _ _ (.inl rfl) (r1 z) (fin _ (by simp) (by simp [RangesOf]; omega))
  by_cases h2 : 100000000 ≤ v
  · exact key _ _ (.inl rfl) (r2 z) (fin _ (by simp) (by simp [RangesOf]; omega))
  by_cases h3 : k = 0
  · exact key _ _ (.inl rfl) (r3 z) (fin _ (by simp) (by simp [RangesOf]; omega))
  by_cases h4 : 4611686018427387905 ≤ k
  · exact key _ _ (.inl rfl) (r4 z) (fin _ (by simp) (by simp [RangesOf]; omega))
  by_cases h5 : 1001 ≤ n
  · exact key _ _ (.inl rfl) (r5 z) (fin _ (by simp) (by simp [RangesOf]; omega))
  rcases hx with hx | hx | ⟨b, off, c', arr, t, fr, l, hx, hl, hb, hblk, hrow⟩
  · exact key _ _ (.inr (.inl ⟨rfl, hx⟩)) (m1 z) (fin _ (by simp) (by simp [RangesOf]; omega))
  · exact key _ _ (.inr (.inr ⟨rfl, hx⟩)) (m2 z) (fin _ (by simp) (by simp [RangesOf]; omega))
  · have hln : l.length = n := by rw [hxn] at hx; simp at hx; omega
    have hsm : ∀ d : Nat, ((fun _ => l) d : List UInt8).length ≤ 1099511627776 := fun d => by show l.length ≤ _; omega
    obtain ⟨hle, hsig, hrep⟩ := rep_arg (F := Fix.of [v, k, c] (fun _ => l) hsm) (d := 0) (id := 0) (s' := s1) (off := off) (rep_start _ w 0) rfl hb hblk hrow
    refine said_from (F := Fix.of [v, k, c] (fun _ => l) hsm) (rangeOK_of ?_) w (ov_ok _ _ _) hrep (m3 z) [.agg #[.int .i64 v, .int .u64 k, .int .u32 c], x, .bool z] ?_
    · refine ⟨?_, ?_, ?_, ?_, trivial⟩
      · rw [Fix.of_int _ _ _ _ (by omega)]; simp; omega
      · rw [Fix.of_int _ _ _ _ (by omega)]; simp; omega
      · rw [Fix.of_int _ _ _ _ (by omega)]; simp; omega
      · have := (Fix.of [v, k, c] (fun _ => l) hsm).len 0
        rw [show (1000 : Nat) = 1000 + 2 * 0 from rfl, this]
        show (0 : Int) ≤ (l.length : Int) ∧ (l.length : Int) ≤ 1000
        omega
    · simp only [VRs, VR, fid, i, SI.val, Fix.of_int _ _ hsm _ (show (0:Nat) < 1000 by omega), Fix.of_int _ _ hsm _ (show (1:Nat) < 1000 by omega), Fix.of_int _ _ hsm _ (show (2:Nat) < 1000 by omega)]
      subst hx
      exact ⟨_, _, ⟨_, ⟨_, _, rfl, ⟨_, _, rfl, ⟨_, _, rfl, rfl, rfl⟩, rfl⟩, rfl⟩, rfl⟩, ⟨_, _, ⟨b, off, hsig, c', rfl⟩, ⟨_, _, rfl, rfl, rfl⟩, rfl⟩, rfl⟩

theorem cells36 : Tryz.prog.cellsOf 36 = 3 := by kernel_rfl

set_option maxRecDepth 100000 in
theorem core (W : World) {H : Type} {enc : TypeId × Value → H} {base : Nat} (v0 v1 v2 : Value) {d0 d1 d2 : DataW H} {p0 p1 p2 : List MemPlace}
    (h0 : DataW.Trod enc Tryz.prog W 0 (fun _ => true) true 36 v0 d0 p0) (k0 : Value.okWide Tryz.prog W .any base 36 v0) (_ : ∀ n ∈ d0.weights Tryz.prog 36, n ≤ reachBytes)
    (h1 : DataW.Trod enc Tryz.prog W 0 (fun _ => true) true 37 v1 d1 p1) (k1 : Value.okWide Tryz.prog W .any base 37 v1) (_ : ∀ n ∈ d1.weights Tryz.prog 37, n ≤ reachBytes)
    (h2 : DataW.Trod enc Tryz.prog W 0 (fun _ => true) true 4 v2 d2 p2) (k2 : Value.okWide Tryz.prog W .any base 4 v2) (_ : ∀ n ∈ d2.weights Tryz.prog 4, n ≤ reachBytes) :
    Calls Tryz.prog 6 #[v0, v1, v2] W fun r w' => r = .returned (.bool true) ∧ Below W.heap.size W w' := by
  obtain ⟨c0, c1, c2, y0, y1, y2, m, rfl, _, _, hy0, hy1, hy2⟩ := open_agg3 Tryz.underlying36 (by kernel_rfl) cells36 k0 h0
  obtain ⟨x, e0, _, wx⟩ := DataW.trod_int Tryz.underlying3 hy0
  obtain ⟨y, e1, _, wy⟩ := DataW.trod_int Tryz.underlying33 hy1
  obtain ⟨u, e2, _, wu⟩ := DataW.trod_int Tryz.underlying34 hy2
  simp at e0 e1 e2
  subst e0 e1 e2
  have hx : ArgRow W v1 := by
    obtain ⟨a0, len0, cap0, rfl⟩ := okWide_slice Tryz.underlying37 k1
    obtain ⟨fuel, hf⟩ := h1
    exact argRow_of Tryz.underlying37 Tryz.underlying5 (by kernel_rfl) (by simpa [Value.cells] using hf)
  obtain ⟨z, rfl, _, _⟩ := open_bool Tryz.underlying4 k2 h2
  exact walk x y u v1 z wx wy wu W hx

theorem own : ownKnob Tryz.prog.godebug = none := by kernel_rfl
theorem laidOut : laidOutB Tryz.prog = true := by kernel_rfl
def laidL : List (String × DataW Unit) := [("math/bits.deBruijn64tab", Rows.laid_math_bits_deBruijn64tab)]
/-- The door's own heap meets the condition. -/
theorem door_met (os : Os) (args : Array Value) : laidMetH Tryz.prog laidL ((World.doorLaid Tryz.prog 400 os).forCall (fun _ _ => 0) ⟨#[], args, []⟩).memory :=
  laidMetH_of_parts3 (fuel := 8) (laidMet_of_run' 8 (by kernel_rfl) (by kernel_rfl)) (by kernel_rfl) (by kernel_rfl)

set_option maxRecDepth 100000 in
theorem lifted (os : Os) (started : os.Started) (H : Type) (enc : TypeId × Value → H) :
    ReturnsInHanded {} Tryz.checked os 6 .any (fun w args => (Rows.clientSureSpec.pre enc Tryz.prog Tryz.f6 [] false w args ∧ laidMetH Tryz.prog laidL w) ∧ sizedMet enc Tryz.prog Tryz.f6 (OpenSpec.ofChange Rows.clientSureSpec) false w args)
      (Rows.clientSureSpec.post enc Tryz.prog Tryz.f6 false true false false) := by
  refine returnsInHanded_of_change_and (C := Tryz.checked) (X := fun w _ => laidMetH Tryz.prog laidL w) (fun _ _ _ hh h => h.of_heap hh) own started (by kernel_rfl) Tryz.func6
    (ChangeSpec.witness_shaped (enc := enc) (C := Tryz.checked) (os := os) (X := fun w _ => laidMetH Tryz.prog laidL w) false (World.doorLaid Tryz.prog 400 os) #[.agg #[.int .i64 0, .int .u64 0, .int .u32 0], .slice none 0 0, .bool false] 8 rfl (World.shaped_of_RefB (by kernel_rfl) (by kernel_rfl)) (by kernel_rfl) (by kernel_rfl) (by kernel_rfl) (door_met os _)) ?_
  intro W base args ds gs before hval0 hW _ hsz _ _
  have hval : ∀ (j : Nat) t v, Tryz.f6.params[j]? = some t → args[j]? = some v → Value.okWide Tryz.prog W .any base t v := hval0
  have hW' := hW
  obtain ⟨p, q, hA0, hV, rfl, hfz, hnd⟩ := hW
  have hA : DataW.TrodAll enc Tryz.prog W 0 (fun _ => true) true Tryz.f6.params.toList args.toList ds p := hA0
  rw [Tryz.params6] at hA hval
  obtain ⟨v0, vs0, d0, ds0, p0, q0, hargs, rfl, rfl, h0, r0⟩ := trodAll_cons hA
  obtain ⟨v1, vs1, d1, ds1, p1, q1, rfl, rfl, rfl, h1, r1⟩ := trodAll_cons r0
  obtain ⟨v2, vs2, d2, ds2, p2, q2, rfl, rfl, rfl, h2, r2⟩ := trodAll_cons r1
  obtain ⟨rfl, rfl, rfl⟩ := trodAll_nil r2
  obtain rfl : args = #[v0, v1, v2] := by cases args; simp_all
  obtain ⟨rfl, rfl⟩ := trodVars_none hV
  have lt0 : ∀ x ∈ p0, x.block < W.heap.size := by obtain ⟨m, hm⟩ := h0; exact DataW.trod_lt m _ _ _ hm
  have lt1 : ∀ x ∈ p1, x.block < W.heap.size := by obtain ⟨m, hm⟩ := h1; exact DataW.trod_lt m _ _ _ hm
  have lt2 : ∀ x ∈ p2, x.block < W.heap.size := by obtain ⟨m, hm⟩ := h2; exact DataW.trod_lt m _ _ _ hm
  simp only [List.append_nil] at hW'
  rw [Tryz.params6] at hsz
  have g0 := weights_arg hsz (j := 0) (t := 36) (d := d0) rfl rfl
  have g1 := weights_arg hsz (j := 1) (t := 37) (d := d1) rfl rfl
  have g2 := weights_arg hsz (j := 2) (t := 4) (d := d2) rfl rfl
  refine (core W v0 v1 v2 h0 (hval 0 36 v0 rfl rfl) g0 h1 (hval 1 37 v1 rfl rfl) g1 h2 (hval 2 4 v2 rfl rfl) g2).mono fun e W' ⟨he, hb⟩ => ?_
  subst he
  exact ⟨_, rfl, _, _, _, [], _, [], hW', trodAll_cons_mk (shut_bool Tryz.underlying4 _) trodAll_mk0,
    (trodAll_cons_mk (Below.trod laidOut (by kernel_rfl) (of_decide_eq_true (by kernel_rfl)) h0 hb lt0) (trodAll_cons_mk (Below.trod laidOut (by kernel_rfl) (of_decide_eq_true (by kernel_rfl)) h1 hb lt1) (trodAll_cons_mk (Below.trod laidOut (by kernel_rfl) (of_decide_eq_true (by kernel_rfl)) h2 hb lt2) trodAll_mk0))),
    rfl, hb.frame _, fun h => by cases h⟩

theorem over : Rows.clientSureRow.holds Tryz.pinned (OpenSpec.ofChange Rows.clientSureSpec) :=
  OpenClaim.holds_of_wide 6 Tryz.f6 rfl rfl rfl rfl rfl rfl rfl ⟨rfl, rfl, rfl, rfl, rfl⟩ rfl rfl rfl rfl rfl (by kernel_rfl) Tryz.func6 (by kernel_rfl)
    (of_decide_eq_true (by kernel_rfl)) (by unfold Func.isWrapper; first | (rw [if_pos (by decide +kernel)]; kernel_rfl) | (rw [if_neg (by decide +kernel)]; exact ⟨rfl, rfl⟩))
    (fun os started H enc _ => lifted os started H enc)

theorem proved : Rows.ClientSureCardSaid :=
  Claim7.holds_tied_plain_at .later [] [.data] true (true, "e9e9f9c2c2b82cba2d933c51005d0d4f1e95e28fc24c4941ff25554d77c8f86b") false
    over (fun _ h => by cases h) (by kernel_rfl) (fun _ h => by cases h) clientSure_row_tie rfl ⟨rfl, rfl⟩ (by kernel_rfl) rfl
    (fun f fn hf hfn => by
      obtain rfl : f = 6 := Option.some.inj ((show Tryz.prog.funcNamed "garner/garnerlaw22.ClientSure" = some 6 by kernel_rfl).symm.trans hf) |>.symm
      obtain rfl : fn = Tryz.f6 := (Option.some.inj (Tryz.func6.symm.trans hfn)).symm
      exact ⟨by kernel_rfl, fun j t ht => by
        rw [Tryz.params6] at ht
        rcases j with _ | _ | _ | j
        · simp at ht; subst ht; kernel_rfl
        · simp at ht; subst ht; kernel_rfl
        · simp at ht; subst ht; kernel_rfl
        · simp at ht⟩)
    (by kernel_rfl)
#print axioms proved
end Go.Proofs.YtgmpfngapfdpmaaGreatDoor.clientSure
