/- 'garnerlaw22.ClientOfNothing': whatever the input: true; the input reads as it did. Conditions: those of the given row alone. -/
import Derived.Test.YtgmpfngapfdpmaaGreatDoorEv16
import Derived.Test.YtgmpfngapfdpmaaGreatDoorRows
import Derived.Test.YtgmpfngapfdpmaaGreatDoorCards
import Derived.Test.YtgmpfngapfdpmaaGreatDoorTie
import Derived.WalkKit
import Derived.ProofKit
import Derived.OpenShut
import Derived.ShutString
import Derived.ChangeOld
import Derived.Below
import Derived.Carry
import Derived.SevenTiedAt
import Derived.LaidMore
import Derived.Stop.Joined
import Derived.Lib.SmallJoins
namespace Go.Proofs.YtgmpfngapfdpmaaGreatDoor.clientOfNothing
open Go.ChangeShapes Go.WideShapes Go.ChangeAt Go.RowKit Go.Sx Go.Joins

noncomputable def ov : CallF := saysTrue 7
theorem known : tells (evCall Tryz.prog [] 2000 (fun _ _ _ => none) 30 7 [] ⟨.nil, 0⟩) = true := by kernel_rfl
theorem ov_ok (F : Fix) (B : Nat) (w0 : World) : CallOK F B w0 Tryz.prog ov := saysTrue_ok (fun w => said_any known w) F B w0

def i (n : Nat) : AV := .int .i64 (.var n)
def x : AV := .agg [i 0, i 1, .int .u64 (.var 2), .int .u32 (.var 3), .argl 4]
def m : AV := .agg [i 5, i 6, i 7, .argl 8, .argl 9]
def sv (a b : Nat) : Nat := 1001 + 2 * (2000 * a + b)
def base : Ranges := [(4, 0, 281474976710656), (8, 0, 281474976710656), (9, 0, 281474976710656), (sv 4 9, 0, 562949953421312)]
noncomputable def run (R : Ranges) : Bool := tells (evCall Tryz.prog R 2000 ov 30 5 [x, m] ⟨.nil, 0⟩)

theorem r1 : run ((sv (sv 4 9) 8, 40001, 844424930131968) :: base) = true := by kernel_rfl
theorem r2 : run ((sv (sv 4 9) 8, 0, 40000) :: base) = true := by kernel_rfl

theorem cells39 : Tryz.prog.cellsOf 39 = 5 := by kernel_rfl
theorem cells36 : Tryz.prog.cellsOf 36 = 3 := by kernel_rfl
theorem cells37 : Tryz.prog.cellsOf 37 = 1 := by kernel_rfl
theorem cells3 : Tryz.prog.cellsOf 3 = 1 := by kernel_rfl
theorem cells33 : Tryz.prog.cellsOf 33 = 1 := by kernel_rfl
theorem cells34 : Tryz.prog.cellsOf 34 = 1 := by kernel_rfl
theorem cells40 : Tryz.prog.cellsOf 40 = 1 := by kernel_rfl
theorem cells42 : Tryz.prog.cellsOf 42 = 5 := by kernel_rfl

theorem walk (a0 a1 a2 a3 a5 a6 a7 : Int) (s1 s2 s3 : Value) (n1 n2 n3 : Nat) (h1 : ArgLen s1 n1) (h2 : ArgLen s2 n2) (h3 : ArgLen s3 n3) (hm1 : n1 ≤ 140737488351232) (hm2 : n2 ≤ 140737488351232) (hm3 : n3 ≤ 140737488351232) (w : World) :
    Calls Tryz.prog 5 #[.agg #[.int .i64 a0, .int .i64 a1, .int .u64 a2, .int .u32 a3, s1], .agg #[.int .i64 a5, .int .i64 a6, .int .i64 a7, s2, s3]] w fun r w' => r = .returned (.bool true) ∧ Below w.heap.size w w' := by
  have hI : ∀ j, j < 1000 → (Fix.ints [a0, a1, a2, a3, n1, a5, a6, a7, n2, n3]).ρ j = ([a0, a1, a2, a3, (n1 : Int), a5, a6, a7, (n2 : Int), (n3 : Int)] : List Int).getD j 0 := fun j hj => Fix.ints_int _ _ hj
  have hS : ∀ a b, b < 2000 → (Fix.ints [a0, a1, a2, a3, n1, a5, a6, a7, n2, n3]).ρ (sv a b) = (Fix.ints [a0, a1, a2, a3, n1, a5, a6, a7, n2, n3]).ρ a + (Fix.ints [a0, a1, a2, a3, n1, a5, a6, a7, n2, n3]).ρ b := fun a b hb => Fix.ints_sum _ _ _ hb
  obtain ⟨p1, c1, rfl, _⟩ := h1
  obtain ⟨p2, c2, rfl, _⟩ := h2
  obtain ⟨p3, c3, rfl, _⟩ := h3
  have hb : RangesOf (Fix.ints [a0, a1, a2, a3, n1, a5, a6, a7, n2, n3]).ρ base := by
    refine ⟨?_, ?_, ?_, ?_, trivial⟩
    · rw [hI _ (by omega)]; simp; omega
    · rw [hI _ (by omega)]; simp; omega
    · rw [hI _ (by omega)]; simp; omega
    · rw [hS _ _ (by omega), hI _ (by omega), hI _ (by omega)]; simp; omega
  have key : ∀ R, run R = true → RangesOf (Fix.ints [a0, a1, a2, a3, n1, a5, a6, a7, n2, n3]).ρ R → Calls Tryz.prog 5 #[.agg #[.int .i64 a0, .int .i64 a1, .int .u64 a2, .int .u32 a3, .slice p1 n1 c1], .agg #[.int .i64 a5, .int .i64 a6, .int .i64 a7, .slice p2 n2 c2, .slice p3 n3 c3]] w fun r w' => r = .returned (.bool true) ∧ Below w.heap.size w w' := fun R hr hR =>
    said (F := Fix.ints [a0, a1, a2, a3, n1, a5, a6, a7, n2, n3]) (rangeOK_of hR) w (ov_ok _ _ _) hr [.agg #[.int .i64 a0, .int .i64 a1, .int .u64 a2, .int .u32 a3, .slice p1 n1 c1], .agg #[.int .i64 a5, .int .i64 a6, .int .i64 a7, .slice p2 n2 c2, .slice p3 n3 c3]]
      (by simp [VRs, VR, x, m, i, SI.val, hI _ (show (0:Nat) < 1000 by omega), hI _ (show (1:Nat) < 1000 by omega), hI _ (show (2:Nat) < 1000 by omega), hI _ (show (3:Nat) < 1000 by omega), hI _ (show (4:Nat) < 1000 by omega), hI _ (show (5:Nat) < 1000 by omega), hI _ (show (6:Nat) < 1000 by omega), hI _ (show (7:Nat) < 1000 by omega), hI _ (show (8:Nat) < 1000 by omega), hI _ (show (9:Nat) < 1000 by omega)])
  by_cases h : n1 + n3 + n2 ≤ 40000
  · refine key _ r2 ⟨?_, hb⟩
    rw [hS _ _ (by omega), hS _ _ (by omega), hI _ (by omega), hI _ (by omega), hI _ (by omega)]; simp; omega
  · refine key _ r1 ⟨?_, hb⟩
    rw [hS _ _ (by omega), hS _ _ (by omega), hI _ (by omega), hI _ (by omega), hI _ (by omega)]; simp; omega

set_option maxRecDepth 100000 in
theorem core (W : World) {H : Type} {enc : TypeId × Value → H} {base : Nat} (v0 v1 : Value) {d0 d1 : DataW H} {p0 p1 : List MemPlace}
    (h0 : DataW.Trod enc Tryz.prog W 0 (fun _ => true) true 39 v0 d0 p0) (k0 : Value.okWide Tryz.prog W .any base 39 v0) (g0 : ∀ n ∈ d0.weights Tryz.prog 39, n ≤ reachBytes)
    (h1 : DataW.Trod enc Tryz.prog W 0 (fun _ => true) true 42 v1 d1 p1) (k1 : Value.okWide Tryz.prog W .any base 42 v1) (g1 : ∀ n ∈ d1.weights Tryz.prog 42, n ≤ reachBytes) :
    Calls Tryz.prog 5 #[v0, v1] W fun r w' => r = .returned (.bool true) ∧ Below W.heap.size W w' := by
  obtain ⟨cs, rfl, hs⟩ := okWide_struct Tryz.underlying39 k0
  obtain ⟨c0, c1, c2, c3, c4, rfl⟩ := array5 (show cs.size = 5 by rw [hs]; exact cells39)
  obtain ⟨es, rfl, hs'⟩ := okWide_struct Tryz.underlying42 k1
  obtain ⟨e0, e1, e2, e3, e4, rfl⟩ := array5 (show es.size = 5 by rw [hs']; exact cells42)
  obtain ⟨fuel, hf⟩ := h0
  obtain ⟨y0, y1, y2, n, hd0, _, t0, t1, t2⟩ := Go.Deep.trod_struct3 Tryz.underlying39 hf
  simp only [Prod.mk.injEq] at hd0
  obtain ⟨rfl, _⟩ := hd0
  simp only [Value.cells, cells3, cells36, cells37, List.drop_zero, List.drop_succ_cons, List.take_succ_cons, List.take_zero] at t0 t1 t2
  obtain ⟨z0, z1, z2, n', _, _, u0, u1, u2⟩ := Go.Deep.trod_struct3 Tryz.underlying36 t1
  simp only [cells3, cells33, cells34, List.drop_zero, List.drop_succ_cons, List.take_succ_cons, List.take_zero] at u0 u1 u2
  obtain ⟨a0, q0, _, _⟩ := DataW.trod_int Tryz.underlying3 t0
  obtain ⟨a1, q1, _, _⟩ := DataW.trod_int Tryz.underlying3 u0
  obtain ⟨a2, q2, _, _⟩ := DataW.trod_int Tryz.underlying33 u1
  obtain ⟨a3, q3, _, _⟩ := DataW.trod_int Tryz.underlying34 u2
  simp at q0 q1 q2 q3
  subst q0 q1 q2 q3
  obtain ⟨n1, l1, m1⟩ := argLen_small Tryz.underlying37 (of_decide_eq_true (by kernel_rfl)) t2 (weights_part Tryz.underlying39 g0 (j := 2) rfl rfl)
  obtain ⟨fuel', hf'⟩ := h1
  obtain ⟨xs, nn, _, hd1, _, hlen, hx⟩ := DataW.trod_struct Tryz.underlying42 hf'
  simp only [Prod.mk.injEq] at hd1
  obtain ⟨rfl, _⟩ := hd1
  have gg : ∀ (j : Nat) (hj : j < 5), ∃ y, xs[j]? = some y := fun j hj => ⟨xs[j]'(by rw [hlen]; simpa using hj), List.getElem?_eq_getElem _⟩
  have f0 : DataW.trod enc Tryz.prog W 0 (fun _ => true) true nn 3 ((List.drop 0 [e0, e1, e2, e3, e4]).take (Tryz.prog.cellsOf 3)) = xs[0]? := hx 0 _ rfl
  have f1 : DataW.trod enc Tryz.prog W 0 (fun _ => true) true nn 3 ((List.drop 1 [e0, e1, e2, e3, e4]).take (Tryz.prog.cellsOf 3)) = xs[1]? := hx 1 _ rfl
  have f2 : DataW.trod enc Tryz.prog W 0 (fun _ => true) true nn 3 ((List.drop 2 [e0, e1, e2, e3, e4]).take (Tryz.prog.cellsOf 3)) = xs[2]? := hx 2 _ rfl
  have f3 : DataW.trod enc Tryz.prog W 0 (fun _ => true) true nn 40 ((List.drop 3 [e0, e1, e2, e3, e4]).take (Tryz.prog.cellsOf 40)) = xs[3]? := hx 3 _ rfl
  have f4 : DataW.trod enc Tryz.prog W 0 (fun _ => true) true nn 37 ((List.drop 4 [e0, e1, e2, e3, e4]).take (Tryz.prog.cellsOf 37)) = xs[4]? := hx 4 _ rfl
  simp only [cells3, cells40, cells37, List.drop_zero, List.drop_succ_cons, List.take_succ_cons, List.take_zero] at f0 f1 f2 f3 f4
  obtain ⟨b0, x0⟩ := gg 0 (by omega)
  obtain ⟨b1, x1⟩ := gg 1 (by omega)
  obtain ⟨b2, x2⟩ := gg 2 (by omega)
  obtain ⟨b3, x3⟩ := gg 3 (by omega)
  obtain ⟨b4, x4⟩ := gg 4 (by omega)
  rw [x0] at f0
  rw [x1] at f1
  rw [x2] at f2
  rw [x3] at f3
  rw [x4] at f4
  obtain ⟨a5, q5, _, _⟩ := DataW.trod_int Tryz.underlying3 f0
  obtain ⟨a6, q6, _, _⟩ := DataW.trod_int Tryz.underlying3 f1
  obtain ⟨a7, q7, _, _⟩ := DataW.trod_int Tryz.underlying3 f2
  simp at q5 q6 q7
  subst q5 q6 q7
  obtain ⟨n2, l2, m2⟩ := argLen_small Tryz.underlying40 (of_decide_eq_true (by kernel_rfl)) f3 (weights_part Tryz.underlying42 g1 (j := 3) (d := b3.1) rfl (by rw [List.getElem?_map, x3]; rfl))
  obtain ⟨n3, l3, m3⟩ := argLen_small Tryz.underlying37 (of_decide_eq_true (by kernel_rfl)) f4 (weights_part Tryz.underlying42 g1 (j := 4) (d := b4.1) rfl (by rw [List.getElem?_map, x4]; rfl))
  exact walk _ _ _ _ _ _ _ _ _ _ n1 n2 n3 l1 l2 l3 m1 m2 m3 W

theorem own : ownKnob Tryz.prog.godebug = none := by kernel_rfl
theorem laidOut : laidOutB Tryz.prog = true := by kernel_rfl
def laidL : List (String × DataW Unit) := [("math/bits.deBruijn64tab", Rows.laid_math_bits_deBruijn64tab)]
/-- The door's own heap meets the condition. -/
theorem door_met (os : Os) (args : Array Value) : laidMetH Tryz.prog laidL ((World.doorLaid Tryz.prog 400 os).forCall (fun _ _ => 0) ⟨#[], args, []⟩).memory :=
  laidMetH_of_parts3 (fuel := 8) (laidMet_of_run' 8 (by kernel_rfl) (by kernel_rfl)) (by kernel_rfl) (by kernel_rfl)

set_option maxRecDepth 100000 in
theorem lifted (os : Os) (started : os.Started) (H : Type) (enc : TypeId × Value → H) :
    ReturnsInHanded {} Tryz.checked os 5 .any (fun w args => (Rows.clientOfNothingSpec.pre enc Tryz.prog Tryz.f5 [] false w args ∧ laidMetH Tryz.prog laidL w) ∧ sizedMet enc Tryz.prog Tryz.f5 (OpenSpec.ofChange Rows.clientOfNothingSpec) false w args)
      (Rows.clientOfNothingSpec.post enc Tryz.prog Tryz.f5 false true false false) := by
  refine returnsInHanded_of_change_and (C := Tryz.checked) (X := fun w _ => laidMetH Tryz.prog laidL w) (fun _ _ _ hh h => h.of_heap hh) own started (by kernel_rfl) Tryz.func5
    (ChangeSpec.witness_shaped (enc := enc) (C := Tryz.checked) (os := os) (X := fun w _ => laidMetH Tryz.prog laidL w) false (World.doorLaid Tryz.prog 400 os) #[.agg #[.int .i64 0, .int .i64 0, .int .u64 0, .int .u32 0, .slice none 0 0], .agg #[.int .i64 0, .int .i64 0, .int .i64 0, .slice none 0 0, .slice none 0 0]] 8 rfl (World.shaped_of_RefB (by kernel_rfl) (by kernel_rfl)) (by kernel_rfl) (by kernel_rfl) (by kernel_rfl) (door_met os _)) ?_
  intro W base args ds gs before hval0 hW _ hsz _ _
  have hval : ∀ (j : Nat) t v, Tryz.f5.params[j]? = some t → args[j]? = some v → Value.okWide Tryz.prog W .any base t v := hval0
  have hW' := hW
  obtain ⟨p, q, hA0, hV, rfl, hfz, hnd⟩ := hW
  have hA : DataW.TrodAll enc Tryz.prog W 0 (fun _ => true) true Tryz.f5.params.toList args.toList ds p := hA0
  rw [Tryz.params5] at hA hval
  obtain ⟨v0, vs0, d0, ds0, p0, q0, hargs, rfl, rfl, h0, r0⟩ := trodAll_cons hA
  obtain ⟨v1, vs1, d1, ds1, p1, q1, rfl, rfl, rfl, h1, r1⟩ := trodAll_cons r0
  obtain ⟨rfl, rfl, rfl⟩ := trodAll_nil r1
  obtain rfl : args = #[v0, v1] := by cases args; simp_all
  obtain ⟨rfl, rfl⟩ := trodVars_none hV
  have lt0 : ∀ x ∈ p0, x.block < W.heap.size := by obtain ⟨m, hm⟩ := h0; exact DataW.trod_lt m _ _ _ hm
  have lt1 : ∀ x ∈ p1, x.block < W.heap.size := by obtain ⟨m, hm⟩ := h1; exact DataW.trod_lt m _ _ _ hm
  simp only [List.append_nil] at hW'
  rw [Tryz.params5] at hsz
  have g0 := weights_arg hsz (j := 0) (t := 39) (d := d0) rfl rfl
  have g1 := weights_arg hsz (j := 1) (t := 42) (d := d1) rfl rfl
  refine (core W v0 v1 h0 (hval 0 39 v0 rfl rfl) g0 h1 (hval 1 42 v1 rfl rfl) g1).mono fun e W' ⟨he, hb⟩ => ?_
  subst he
  exact ⟨_, rfl, _, _, _, [], _, [], hW', trodAll_cons_mk (shut_bool Tryz.underlying4 _) trodAll_mk0,
    (trodAll_cons_mk (Below.trod laidOut (by kernel_rfl) (of_decide_eq_true (by kernel_rfl)) h0 hb lt0) (trodAll_cons_mk (Below.trod laidOut (by kernel_rfl) (of_decide_eq_true (by kernel_rfl)) h1 hb lt1) trodAll_mk0)),
    rfl, hb.frame _, fun h => by cases h⟩

theorem over : Rows.clientOfNothingRow.holds Tryz.pinned (OpenSpec.ofChange Rows.clientOfNothingSpec) :=
  OpenClaim.holds_of_wide 5 Tryz.f5 rfl rfl rfl rfl rfl rfl rfl ⟨rfl, rfl, rfl, rfl, rfl⟩ rfl rfl rfl rfl rfl (by kernel_rfl) Tryz.func5 (by kernel_rfl)
    (of_decide_eq_true (by kernel_rfl)) (by unfold Func.isWrapper; first | (rw [if_pos (by decide +kernel)]; kernel_rfl) | (rw [if_neg (by decide +kernel)]; exact ⟨rfl, rfl⟩))
    (fun os started H enc _ => lifted os started H enc)

theorem proved : Rows.ClientOfNothingCardSaid :=
  Claim7.holds_tied_plain_at .later [] [.data] true (true, "e9e9f9c2c2b82cba2d933c51005d0d4f1e95e28fc24c4941ff25554d77c8f86b") false
    over (fun _ h => by cases h) (by kernel_rfl) (fun _ h => by cases h) clientOfNothing_row_tie rfl ⟨rfl, rfl⟩ (by kernel_rfl) rfl
    (fun f fn hf hfn => by
      obtain rfl : f = 5 := Option.some.inj ((show Tryz.prog.funcNamed "garner/garnerlaw22.ClientOfNothing" = some 5 by kernel_rfl).symm.trans hf) |>.symm
      obtain rfl : fn = Tryz.f5 := (Option.some.inj (Tryz.func5.symm.trans hfn)).symm
      exact ⟨by kernel_rfl, fun j t ht => by
        rw [Tryz.params5] at ht
        rcases j with _ | _ | j
        · simp at ht; subst ht; kernel_rfl
        · simp at ht; subst ht; kernel_rfl
        · simp at ht⟩)
    (by kernel_rfl)
#print axioms proved
end Go.Proofs.YtgmpfngapfdpmaaGreatDoor.clientOfNothing
