/- 'garnerlaw22.ClientLate': whatever the input: true; the input reads as it did. Conditions: those of the given row alone. -/
import Derived.Test.YtgmpfngapfdpmaaDoorEv16
import Derived.Test.YtgmpfngapfdpmaaDoorRows
import Derived.Test.YtgmpfngapfdpmaaDoorCards
import Derived.Test.YtgmpfngapfdpmaaDoorTie
import Derived.WalkKit
import Derived.ProofKit
import Derived.OpenShut
import Derived.ShutString
import Derived.ChangeOld
import Derived.Below
import Derived.Carry
import Derived.SevenTiedAt
import Derived.LaidMore
import Derived.Stop.Joined
import Derived.Lib.SmallJoins
namespace Go.Proofs.YtgmpfngapfdpmaaDoor.clientLate
open Go.ChangeShapes Go.WideShapes Go.ChangeAt Go.RowKit Go.Sx Go.Joins

theorem own : ownKnob Tryd.prog.godebug = none := by kernel_rfl
theorem laidOut : laidOutB Tryd.prog = true := by kernel_rfl

noncomputable def ov : CallF := saysTrue 5
theorem known : tells (evCall Tryd.prog [] 2000 (fun _ _ _ => none) 30 5 [] ⟨.nil, 0⟩) = true := by kernel_rfl
theorem ov_ok (F : Fix) (B : Nat) (w0 : World) : CallOK F B w0 Tryd.prog ov := saysTrue_ok (fun w => said_any known w) F B w0

def i (n : Nat) : AV := .int .i64 (.var n)
def fid : AV := .agg [i 0, .int .u64 (.var 1), .int .u32 (.var 2)]
noncomputable def run (R : Ranges) (x : AV) (s : AS) : Bool := tells (evCall Tryd.prog R 2000 ov 30 3 [fid, x, i 3] s)
noncomputable def s1 : AS := ⟨Tr.set (.rdata 0) 24 .nil 0, 1⟩

theorem r1 : run [(0, -9223372036854775808, 0)] (.argl 4) ⟨.nil, 0⟩ = true := by kernel_rfl
theorem r2 : run [(0, 100000000, 9223372036854775807)] (.argl 4) ⟨.nil, 0⟩ = true := by kernel_rfl
theorem r3 : run [(0, 1, 99999999), (1, 0, 0)] (.argl 4) ⟨.nil, 0⟩ = true := by kernel_rfl
theorem r4 : run [(0, 1, 99999999), (1, 4611686018427387905, 18446744073709551615)] (.argl 4) ⟨.nil, 0⟩ = true := by kernel_rfl
theorem r5 : run [(0, 1, 99999999), (1, 1, 4611686018427387904), (4, 1001, 9223372036854775807)] (.argl 4) ⟨.nil, 0⟩ = true := by kernel_rfl
theorem r6 : run [(0, 1, 99999999), (1, 1, 4611686018427387904), (4, 0, 1000), (3, -9223372036854775808, -1)] (.argl 4) ⟨.nil, 0⟩ = true := by kernel_rfl
theorem r7 : run [(0, 1, 99999999), (1, 1, 4611686018427387904), (4, 0, 1000), (3, 64, 9223372036854775807)] (.argl 4) ⟨.nil, 0⟩ = true := by kernel_rfl
theorem m1 : run [(0, 1, 99999999), (1, 1, 4611686018427387904), (2, 0, 4294967295), (3, 0, 63)] .nilsl ⟨.nil, 0⟩ = true := by kernel_rfl
theorem m2 : run [(0, 1, 99999999), (1, 1, 4611686018427387904), (2, 0, 4294967295), (3, 0, 63)] .argz ⟨.nil, 0⟩ = true := by kernel_rfl
theorem m3 : run [(0, 1, 99999999), (1, 1, 4611686018427387904), (2, 0, 4294967295), (3, 0, 63), (1000, 0, 1000)] (.arg 0 0) s1 = true := by kernel_rfl

theorem walk (v k c e : Int) (x : Value) (wv : (Lit.int .i64 v).wf = true) (wk : (Lit.int .u64 k).wf = true) (wc : (Lit.int .u32 c).wf = true) (we : (Lit.int .i64 e).wf = true) (w : World) (hx : ArgRow w x) :
    Calls Tryd.prog 3 #[.agg #[.int .i64 v, .int .u64 k, .int .u32 c], x, .int .i64 e] w fun r w' => r = .returned (.bool true) ∧ Below w.heap.size w w' := by
  obtain ⟨n, a, cp, hxn, hn⟩ := hx.len
  have key : ∀ R, run R (.argl 4) ⟨.nil, 0⟩ = true → RangesOf (Fix.ints [v, k, c, e, n]).ρ R → Calls Tryd.prog 3 #[.agg #[.int .i64 v, .int .u64 k, .int .u32 c], x, .int .i64 e] w fun r w' => r = .returned (.bool true) ∧ Below w.heap.size w w' := fun R hr hR =>
    said (F := Fix.ints [v, k, c, e, n]) (rangeOK_of hR) w (ov_ok _ _ _) hr [.agg #[.int .i64 v, .int .u64 k, .int .u32 c], x, .int .i64 e]
      (by simp only [VRs, VR, fid, i, SI.val, Fix.ints_int _ _ (show (0:Nat) < 1000 by omega), Fix.ints_int _ _ (show (1:Nat) < 1000 by omega), Fix.ints_int _ _ (show (2:Nat) < 1000 by omega), Fix.ints_int _ _ (show (3:Nat) < 1000 by omega), Fix.ints_int _ _ (show (4:Nat) < 1000 by omega)]
          subst hxn; simp)
  have keyz : ∀ R y, (y = .nilsl ∧ x = .slice none 0 0) ∨ (y = .argz ∧ ∃ a c, x = .slice (some a) 0 c) → run R y ⟨.nil, 0⟩ = true → RangesOf (Fix.ints [v, k, c, e, n]).ρ R → Calls Tryd.prog 3 #[.agg #[.int .i64 v, .int .u64 k, .int .u32 c], x, .int .i64 e] w fun r w' => r = .returned (.bool true) ∧ Below w.heap.size w w' := fun R y hy hr hR =>
    said (F := Fix.ints [v, k, c, e, n]) (rangeOK_of hR) w (ov_ok _ _ _) hr [.agg #[.int .i64 v, .int .u64 k, .int .u32 c], x, .int .i64 e]
      (by rcases hy with ⟨rfl, hx⟩ | ⟨rfl, hx⟩ <;>
          simp [VRs, VR, fid, i, SI.val, Fix.ints_int _ _ (show (0:Nat) < 1000 by omega), Fix.ints_int _ _ (show (1:Nat) < 1000 by omega), Fix.ints_int _ _ (show (2:Nat) < 1000 by omega), Fix.ints_int _ _ (show (3:Nat) < 1000 by omega), hx])
  simp [Lit.wf, IntKind.min, IntKind.max, IntKind.bits, IntKind.signed] at wv wk wc we
  have hn' : n ≤ 9223372036854775807 := by unfold maxLen at hn; omega
  have fin : ∀ R, (∀ q ∈ R, q.1 < 1000) → RangesOf (fun i => ([v, k, c, e, (n : Int)] : List Int).getD i 0) R → RangesOf (Fix.ints [v, k, c, e, n]).ρ R := by
    intro R
    induction R with
    | nil => intro _ _; trivial
    | cons q R ih =>
      intro hq h
      obtain ⟨j, lo, hi⟩ := q
      exact ⟨by rw [Fix.ints_int _ _ (hq _ (List.mem_cons_self))]; exact h.1, ih (fun q h => hq q (List.mem_cons_of_mem _ h)) h.2⟩
  by_cases h1 : v ≤ 0
  · exact key _ r1 (fin _ (by simp) (by simp [RangesOf]; omega))
  by_cases h2 : 100000000 ≤ v
  · exact key _ r2 (fin _ (by simp) (by simp [RangesOf]; omega))
  by_cases h3 : k = 0
  · exact key _ r3 (fin _ (by simp) (by simp [RangesOf]; omega))
  by_cases h4 : 4611686018427387905 ≤ k
  · exact key _ r4 (fin _ (by simp) (by simp [RangesOf]; omega))
  by_cases h5 : 1001 ≤ n
  · exact key _ r5 (fin _ (by simp) (by simp [RangesOf]; omega))
  by_cases h6 : e < 0
  · exact key _ r6 (fin _ (by simp) (by simp [RangesOf]; omega))
  by_cases h7 : 64 ≤ e
  · exact key _ r7 (fin _ (by simp) (by simp [RangesOf]; omega))
  rcases hx with hx | hx | ⟨b, off, c', arr, t, fr, l, hx, hl, hb, hblk, hrow⟩
  · exact keyz _ _ (.inl ⟨rfl, hx⟩) m1 (fin _ (by simp) (by simp [RangesOf]; omega))
  · exact keyz _ _ (.inr ⟨rfl, hx⟩) m2 (fin _ (by simp) (by simp [RangesOf]; omega))
  · have hln : l.length = n := by rw [hxn] at hx; simp at hx; omega
    have hsm : ∀ d : Nat, ((fun _ => l) d : List UInt8).length ≤ 1099511627776 := fun d => by show l.length ≤ _; omega
    obtain ⟨hle, hsig, hrep⟩ := rep_arg (F := Fix.of [v, k, c, e] (fun _ => l) hsm) (d := 0) (id := 0) (s' := s1) (off := off) (rep_start _ w 0) rfl hb hblk hrow
    refine said_from (F := Fix.of [v, k, c, e] (fun _ => l) hsm) (rangeOK_of ?_) w (ov_ok _ _ _) hrep m3 [.agg #[.int .i64 v, .int .u64 k, .int .u32 c], x, .int .i64 e] ?_
    · refine ⟨?_, ?_, ?_, ?_, ?_, trivial⟩
      · rw [Fix.of_int _ _ _ _ (by omega)]; simp; omega
      · rw [Fix.of_int _ _ _ _ (by omega)]; simp; omega
      · rw [Fix.of_int _ _ _ _ (by omega)]; simp; omega
      · rw [Fix.of_int _ _ _ _ (by omega)]; simp; omega
      · have := (Fix.of [v, k, c, e] (fun _ => l) hsm).len 0
        rw [show (1000 : Nat) = 1000 + 2 * 0 from rfl, this]
        show (0 : Int) ≤ (l.length : Int) ∧ (l.length : Int) ≤ 1000
        omega
    · simp only [VRs, VR, fid, i, SI.val, Fix.of_int _ _ hsm _ (show (0:Nat) < 1000 by omega), Fix.of_int _ _ hsm _ (show (1:Nat) < 1000 by omega), Fix.of_int _ _ hsm _ (show (2:Nat) < 1000 by omega), Fix.of_int _ _ hsm _ (show (3:Nat) < 1000 by omega)]
      subst hx
      exact ⟨_, _, ⟨_, ⟨_, _, rfl, ⟨_, _, rfl, ⟨_, _, rfl, rfl, rfl⟩, rfl⟩, rfl⟩, rfl⟩, ⟨_, _, ⟨b, off, hsig, c', rfl⟩, ⟨_, _, rfl, rfl, rfl⟩, rfl⟩, rfl⟩

theorem cells25 : Tryd.prog.cellsOf 25 = 3 := by kernel_rfl
def laidL : List (String × DataW Unit) := [("math/bits.deBruijn64tab", Rows.laid_math_bits_deBruijn64tab)]
/-- The door's own heap meets the condition. -/
theorem door_met (os : Os) (args : Array Value) : laidMetH Tryd.prog laidL ((World.doorLaid Tryd.prog 400 os).forCall (fun _ _ => 0) ⟨#[], args, []⟩).memory :=
  laidMetH_of_parts3 (fuel := 8) (laidMet_of_run' 8 (by kernel_rfl) (by kernel_rfl)) (by kernel_rfl) (by kernel_rfl)

set_option maxRecDepth 100000 in
theorem lifted (os : Os) (started : os.Started) (H : Type) (enc : TypeId × Value → H) :
    ReturnsInHanded {} Tryd.checked os 3 .any (fun w args => (Rows.clientLateSpec.pre enc Tryd.prog Tryd.f3 [] false w args ∧ laidMetH Tryd.prog laidL w) ∧ sizedMet enc Tryd.prog Tryd.f3 (OpenSpec.ofChange Rows.clientLateSpec) false w args)
      (Rows.clientLateSpec.post enc Tryd.prog Tryd.f3 false true false false) := by
  refine returnsInHanded_of_change_and (C := Tryd.checked) (X := fun w _ => laidMetH Tryd.prog laidL w) (fun _ _ _ hh h => h.of_heap hh) own started (by kernel_rfl) Tryd.func3
    (ChangeSpec.witness_shaped (enc := enc) (C := Tryd.checked) (os := os) (X := fun w _ => laidMetH Tryd.prog laidL w) false (World.doorLaid Tryd.prog 400 os) #[.agg #[.int .i64 0, .int .u64 0, .int .u32 0], .slice none 0 0, .int .i64 0] 8 rfl (World.shaped_of_RefB (by kernel_rfl) (by kernel_rfl)) (by kernel_rfl) (by kernel_rfl) (by kernel_rfl) (door_met os _)) ?_
  intro W base args ds gs before hval0 hW _ _ _ _
  have hval : ∀ (j : Nat) t v, Tryd.f3.params[j]? = some t → args[j]? = some v → Value.okWide Tryd.prog W .any base t v := hval0
  have hW' := hW
  obtain ⟨p, q, hA0, hV, rfl, hfz, hnd⟩ := hW
  have hA : DataW.TrodAll enc Tryd.prog W 0 (fun _ => true) true Tryd.f3.params.toList args.toList ds p := hA0
  rw [Tryd.params3] at hA hval
  obtain ⟨v0, vs0, d0, ds0, p0, q0, hargs, rfl, rfl, h0, r0⟩ := trodAll_cons hA
  obtain ⟨v1, vs1, d1, ds1, p1, q1, rfl, rfl, rfl, h1, r1⟩ := trodAll_cons r0
  obtain ⟨v2, vs2, d2, ds2, p2, q2, rfl, rfl, rfl, h2, r2⟩ := trodAll_cons r1
  obtain ⟨rfl, rfl, rfl⟩ := trodAll_nil r2
  obtain rfl : args = #[v0, v1, v2] := by cases args; simp_all
  obtain ⟨rfl, rfl⟩ := trodVars_none hV
  have lt0 : ∀ x ∈ p0, x.block < W.heap.size := by obtain ⟨m, hm⟩ := h0; exact DataW.trod_lt m _ _ _ hm
  have lt1 : ∀ x ∈ p1, x.block < W.heap.size := by obtain ⟨m, hm⟩ := h1; exact DataW.trod_lt m _ _ _ hm
  have lt2 : ∀ x ∈ p2, x.block < W.heap.size := by obtain ⟨m, hm⟩ := h2; exact DataW.trod_lt m _ _ _ hm
  have k0 := h0
  have k1 := h1
  have k2 := h2
  obtain ⟨c0, c1, c2, y0, y1, y2, m, rfl, rfl, rfl, hy0, hy1, hy2⟩ := open_agg3 Tryd.underlying25 (by kernel_rfl) cells25 (hval 0 25 v0 rfl rfl) h0
  obtain ⟨x, e0, rfl, wx⟩ := DataW.trod_int Tryd.underlying3 hy0
  obtain ⟨y, e1, rfl, wy⟩ := DataW.trod_int Tryd.underlying22 hy1
  obtain ⟨z, e2, rfl, wz⟩ := DataW.trod_int Tryd.underlying23 hy2
  simp at e0 e1 e2
  subst e0 e1 e2
  have hx : ArgRow W v1 := by
    obtain ⟨a0, len0, cap0, rfl⟩ := okWide_slice Tryd.underlying26 (hval 1 26 v1 rfl rfl)
    obtain ⟨fuel, hf⟩ := h1
    exact argRow_of Tryd.underlying26 Tryd.underlying5 (by kernel_rfl) (by simpa [Value.cells] using hf)
  obtain ⟨a2, rfl, rfl, rfl, w2⟩ := open_int Tryd.underlying3 (hval 2 3 v2 rfl rfl) h2
  clear hA0 hval0
  simp only [List.append_nil] at hW'
  refine (walk x y z a2 v1 wx wy wz w2 W hx).mono fun e W' ⟨he, hb⟩ => ?_
  subst he
  exact ⟨_, rfl, _, _, _, [], _, [], hW', trodAll_cons_mk (shut_bool Tryd.underlying4 _) trodAll_mk0,
    trodAll_cons_mk (Below.trod laidOut (by kernel_rfl) (of_decide_eq_true (by kernel_rfl)) k0 hb lt0) (trodAll_cons_mk (Below.trod laidOut (by kernel_rfl) (of_decide_eq_true (by kernel_rfl)) k1 hb lt1) (trodAll_cons_mk (Below.trod laidOut (by kernel_rfl) (of_decide_eq_true (by kernel_rfl)) k2 hb lt2) trodAll_mk0)),
    rfl, hb.frame _, fun h => by cases h⟩

theorem over : Rows.clientLateRow.holds Tryd.pinned (OpenSpec.ofChange Rows.clientLateSpec) :=
  OpenClaim.holds_of_wide 3 Tryd.f3 rfl rfl rfl rfl rfl rfl rfl ⟨rfl, rfl, rfl, rfl, rfl⟩ rfl rfl rfl rfl rfl (by kernel_rfl) Tryd.func3 (by kernel_rfl)
    (of_decide_eq_true (by kernel_rfl)) (by unfold Func.isWrapper; first | (rw [if_pos (by decide +kernel)]; kernel_rfl) | (rw [if_neg (by decide +kernel)]; exact ⟨rfl, rfl⟩))
    (fun os started H enc _ => lifted os started H enc)

theorem proved : Rows.ClientLateCardSaid :=
  Claim7.holds_tied_plain_at .later [] [.data] true (true, "8130dc8b0e019e08e4ca7c4fa984094542a3f66b481b95d0133b5d651d2fd440") false
    over (fun _ h => by cases h) (by kernel_rfl) (fun _ h => by cases h) clientLate_row_tie rfl ⟨rfl, rfl⟩ (by kernel_rfl) rfl
    (fun f fn hf hfn => by
      obtain rfl : f = 3 := Option.some.inj ((show Tryd.prog.funcNamed "garner/garnerlaw22.ClientLate" = some 3 by kernel_rfl).symm.trans hf) |>.symm
      obtain rfl : fn = Tryd.f3 := (Option.some.inj (Tryd.func3.symm.trans hfn)).symm
      exact ⟨by kernel_rfl, fun j t ht => by
        rw [Tryd.params3] at ht
        rcases j with _ | _ | _ | j
        · simp at ht; subst ht; kernel_rfl
        · simp at ht; subst ht; kernel_rfl
        · simp at ht; subst ht; kernel_rfl
        · simp at ht⟩)
    (by kernel_rfl)
#print axioms proved
end Go.Proofs.YtgmpfngapfdpmaaDoor.clientLate
