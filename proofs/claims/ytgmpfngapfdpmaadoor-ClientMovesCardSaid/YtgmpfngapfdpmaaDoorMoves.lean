/- 'garnerlaw22.ClientMoves': whatever the input: true; the input reads as it did. Conditions: those of the given row alone. -/
import Derived.Test.YtgmpfngapfdpmaaDoorEv15
import Derived.Test.YtgmpfngapfdpmaaDoorRows
import Derived.Test.YtgmpfngapfdpmaaDoorCards
import Derived.Test.YtgmpfngapfdpmaaDoorTie
import Derived.WalkKit
import Derived.ProofKit
import Derived.OpenShut
import Derived.SevenTiedAt
import Derived.LaidMore
import Derived.Stop.Joined
import Derived.Lib.SmallJoins
namespace Go.Proofs.YtgmpfngapfdpmaaDoor.clientMoves
open Go.ChangeShapes Go.WideShapes Go.ChangeAt Go.RowKit Go.Sx Go.Joins

theorem own : ownKnob Tryd.prog.godebug = none := by kernel_rfl

noncomputable def ov : CallF := saysTrue 5
theorem known : tells (evCall Tryd.prog [] 2000 (fun _ _ _ => none) 30 5 [] ⟨.nil, 0⟩) = true := by kernel_rfl
theorem ov_ok (F : Fix) (B : Nat) (w0 : World) : CallOK F B w0 Tryd.prog ov := saysTrue_ok (fun w => said_any known w) F B w0

def i (n : Nat) : AV := .int .i64 (.var n)
def fid : AV := .agg [i 0, .int .u64 (.var 1), .int .u32 (.var 2)]
noncomputable def run (R : Ranges) (z : Bool) : Bool := tells (evCall Tryd.prog R 2000 ov 30 4 [fid, i 3, .bool z] ⟨.nil, 0⟩)

theorem r1 (z : Bool) : run [(0, -9223372036854775808, 0)] z = true := by cases z <;> kernel_rfl
theorem r2 (z : Bool) : run [(0, 100000000, 9223372036854775807)] z = true := by cases z <;> kernel_rfl
theorem r3 (z : Bool) : run [(0, 1, 99999999), (1, 0, 0)] z = true := by cases z <;> kernel_rfl
theorem r4 (z : Bool) : run [(0, 1, 99999999), (1, 4611686018427387905, 18446744073709551615)] z = true := by cases z <;> kernel_rfl
theorem r5 (z : Bool) : run [(0, 1, 99999999), (1, 1, 4611686018427387904), (3, -9223372036854775808, 0)] z = true := by cases z <;> kernel_rfl
theorem r6 (z : Bool) : run [(0, 1, 99999999), (1, 1, 4611686018427387904), (3, 2147483648, 9223372036854775807)] z = true := by cases z <;> kernel_rfl
theorem r7 (z : Bool) : run [(0, 1, 99999999), (1, 1, 4611686018427387904), (2, 0, 4294967295), (3, 1, 4)] z = true := by cases z <;> kernel_rfl
theorem r8 (z : Bool) : run [(0, 1, 99999999), (1, 1, 4611686018427387904), (2, 0, 4294967295), (3, 5, 5)] z = true := by cases z <;> kernel_rfl
theorem r9 (z : Bool) : run [(0, 1, 99999999), (1, 1, 4611686018427387904), (2, 0, 4294967295), (3, 6, 2147483647)] z = true := by cases z <;> kernel_rfl

theorem walk (v k c e : Int) (z : Bool) (wv : (Lit.int .i64 v).wf = true) (wk : (Lit.int .u64 k).wf = true) (wc : (Lit.int .u32 c).wf = true) (we : (Lit.int .i64 e).wf = true) (w : World) :
    Calls Tryd.prog 4 #[.agg #[.int .i64 v, .int .u64 k, .int .u32 c], .int .i64 e, .bool z] w fun r w' => r = .returned (.bool true) ∧ Below w.heap.size w w' := by
  have key : ∀ R, run R z = true → RangesOf (Fix.ints [v, k, c, e]).ρ R → Calls Tryd.prog 4 #[.agg #[.int .i64 v, .int .u64 k, .int .u32 c], .int .i64 e, .bool z] w fun r w' => r = .returned (.bool true) ∧ Below w.heap.size w w' := fun R hr hR =>
    said (F := Fix.ints [v, k, c, e]) (rangeOK_of hR) w (ov_ok _ _ _) hr [.agg #[.int .i64 v, .int .u64 k, .int .u32 c], .int .i64 e, .bool z]
      (by simp [VRs, VR, fid, i, Fix.ints, Fix.of, SI.val])
  simp [Lit.wf, IntKind.min, IntKind.max, IntKind.bits, IntKind.signed] at wv wk wc we
  have g : ∀ R, run R z = true → RangesOf (Fix.ints [v, k, c, e]).ρ R → _ := key
  by_cases h1 : v ≤ 0
  · exact key _ (r1 z) (by simp [RangesOf, Fix.ints, Fix.of]; omega)
  by_cases h2 : 100000000 ≤ v
  · exact key _ (r2 z) (by simp [RangesOf, Fix.ints, Fix.of]; omega)
  by_cases h3 : k = 0
  · exact key _ (r3 z) (by simp [RangesOf, Fix.ints, Fix.of]; omega)
  by_cases h4 : 4611686018427387905 ≤ k
  · exact key _ (r4 z) (by simp [RangesOf, Fix.ints, Fix.of]; omega)
  by_cases h5 : e ≤ 0
  · exact key _ (r5 z) (by simp [RangesOf, Fix.ints, Fix.of]; omega)
  by_cases h6 : 2147483648 ≤ e
  · exact key _ (r6 z) (by simp [RangesOf, Fix.ints, Fix.of]; omega)
  by_cases h7 : e ≤ 4
  · exact key _ (r7 z) (by simp [RangesOf, Fix.ints, Fix.of]; omega)
  by_cases h8 : e = 5
  · exact key _ (r8 z) (by simp [RangesOf, Fix.ints, Fix.of]; omega)
  exact key _ (r9 z) (by simp [RangesOf, Fix.ints, Fix.of]; omega)

def laidL : List (String × DataW Unit) := [("math/bits.deBruijn64tab", Rows.laid_math_bits_deBruijn64tab)]
/-- The door's own heap meets the condition. -/
theorem door_met (os : Os) (args : Array Value) : laidMetH Tryd.prog laidL ((World.doorLaid Tryd.prog 400 os).forCall (fun _ _ => 0) ⟨#[], args, []⟩).memory :=
  laidMetH_of_parts3 (fuel := 8) (laidMet_of_run' 8 (by kernel_rfl) (by kernel_rfl)) (by kernel_rfl) (by kernel_rfl)

theorem cells25 : Tryd.prog.cellsOf 25 = 3 := by kernel_rfl

set_option maxRecDepth 100000 in
theorem lifted (os : Os) (started : os.Started) (H : Type) (enc : TypeId × Value → H) :
    ReturnsInHanded {} Tryd.checked os 4 .any (fun w args => (Rows.clientMovesSpec.pre enc Tryd.prog Tryd.f4 [] false w args ∧ laidMetH Tryd.prog laidL w) ∧ sizedMet enc Tryd.prog Tryd.f4 (OpenSpec.ofChange Rows.clientMovesSpec) false w args)
      (Rows.clientMovesSpec.post enc Tryd.prog Tryd.f4 false true false false) := by
  refine returnsInHanded_of_change_and (C := Tryd.checked) (X := fun w _ => laidMetH Tryd.prog laidL w) (fun _ _ _ hh h => h.of_heap hh) own started (by kernel_rfl) Tryd.func4
    (ChangeSpec.witness_shaped (enc := enc) (C := Tryd.checked) (os := os) (X := fun w _ => laidMetH Tryd.prog laidL w) false (World.doorLaid Tryd.prog 400 os) #[.agg #[.int .i64 0, .int .u64 0, .int .u32 0], .int .i64 0, .bool false] 8 rfl (World.shaped_of_RefB (by kernel_rfl) (by kernel_rfl)) (by kernel_rfl) (by kernel_rfl) (by kernel_rfl) (door_met os _)) ?_
  intro W base args ds gs before hval0 hW _ _ _ _
  have hval : ∀ (j : Nat) t v, Tryd.f4.params[j]? = some t → args[j]? = some v → Value.okWide Tryd.prog W .any base t v := hval0
  have hW' := hW
  obtain ⟨p, q, hA0, hV, rfl, hfz, hnd⟩ := hW
  have hA : DataW.TrodAll enc Tryd.prog W 0 (fun _ => true) true Tryd.f4.params.toList args.toList ds p := hA0
  rw [Tryd.params4] at hA hval
  obtain ⟨v0, vs0, d0, ds0, p0, q0, hargs, rfl, rfl, h0, r0⟩ := trodAll_cons hA
  obtain ⟨v1, vs1, d1, ds1, p1, q1, rfl, rfl, rfl, h1, r1⟩ := trodAll_cons r0
  obtain ⟨v2, vs2, d2, ds2, p2, q2, rfl, rfl, rfl, h2, r2⟩ := trodAll_cons r1
  obtain ⟨rfl, rfl, rfl⟩ := trodAll_nil r2
  obtain rfl : args = #[v0, v1, v2] := by cases args; simp_all
  obtain ⟨rfl, rfl⟩ := trodVars_none hV
  obtain ⟨c0, c1, c2, y0, y1, y2, m, rfl, rfl, rfl, hy0, hy1, hy2⟩ := open_agg3 Tryd.underlying25 (by kernel_rfl) cells25 (hval 0 25 v0 rfl rfl) h0
  obtain ⟨x, e0, rfl, wx⟩ := DataW.trod_int Tryd.underlying3 hy0
  obtain ⟨y, e1, rfl, wy⟩ := DataW.trod_int Tryd.underlying22 hy1
  obtain ⟨z, e2, rfl, wz⟩ := DataW.trod_int Tryd.underlying23 hy2
  simp at e0 e1 e2
  subst e0 e1 e2
  obtain ⟨a1, rfl, rfl, rfl, w1⟩ := open_int Tryd.underlying3 (hval 1 3 v1 rfl rfl) h1
  obtain ⟨a2, rfl, rfl, rfl⟩ := open_bool Tryd.underlying4 (hval 2 4 v2 rfl rfl) h2
  clear hA0 hval0
  simp only [List.append_nil] at hW'
  refine (walk x y z a1 a2 wx wy wz w1 W).mono fun e W' ⟨he, hb⟩ => ?_
  subst he
  exact ⟨_, rfl, _, _, _, [], _, [], hW', trodAll_cons_mk (shut_bool Tryd.underlying4 _) trodAll_mk0,
    trodAll_cons_mk (shut_agg3 (y0 := (_, [])) (y1 := (_, [])) (y2 := (_, [])) Tryd.underlying25 (by kernel_rfl) cells25 (shut_int Tryd.underlying3 wx) (shut_int Tryd.underlying22 wy) (shut_int Tryd.underlying23 wz)) (trodAll_cons_mk (shut_int Tryd.underlying3 w1) (trodAll_cons_mk (shut_bool Tryd.underlying4 _) trodAll_mk0)),
    rfl, hb.frame _, fun h => by cases h⟩

theorem over : Rows.clientMovesRow.holds Tryd.pinned (OpenSpec.ofChange Rows.clientMovesSpec) :=
  OpenClaim.holds_of_wide 4 Tryd.f4 rfl rfl rfl rfl rfl rfl rfl ⟨rfl, rfl, rfl, rfl, rfl⟩ rfl rfl rfl rfl rfl (by kernel_rfl) Tryd.func4 (by kernel_rfl)
    (of_decide_eq_true (by kernel_rfl)) (by unfold Func.isWrapper; first | (rw [if_pos (by decide +kernel)]; kernel_rfl) | (rw [if_neg (by decide +kernel)]; exact ⟨rfl, rfl⟩))
    (fun os started H enc _ => lifted os started H enc)

theorem proved : Rows.ClientMovesCardSaid :=
  Claim7.holds_tied_plain_at .later [] [.data] true (true, "8130dc8b0e019e08e4ca7c4fa984094542a3f66b481b95d0133b5d651d2fd440") false
    over (fun _ h => by cases h) (by kernel_rfl) (fun _ h => by cases h) clientMoves_row_tie rfl ⟨rfl, rfl⟩ (by kernel_rfl) rfl
    (fun f fn hf hfn => by
      obtain rfl : f = 4 := Option.some.inj ((show Tryd.prog.funcNamed "garner/garnerlaw22.ClientMoves" = some 4 by kernel_rfl).symm.trans hf) |>.symm
      obtain rfl : fn = Tryd.f4 := (Option.some.inj (Tryd.func4.symm.trans hfn)).symm
      exact ⟨by kernel_rfl, fun j t ht => by
        rw [Tryd.params4] at ht
        rcases j with _ | _ | _ | j
        · simp at ht; subst ht; kernel_rfl
        · simp at ht; subst ht; kernel_rfl
        · simp at ht; subst ht; kernel_rfl
        · simp at ht⟩)
    (by kernel_rfl)
#print axioms proved
end Go.Proofs.YtgmpfngapfdpmaaDoor.clientMoves
