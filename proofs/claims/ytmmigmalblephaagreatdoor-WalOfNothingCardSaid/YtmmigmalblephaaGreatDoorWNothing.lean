/- 'garnerlaw10.WalOfNothing': whatever the input: true; the input reads as it did. Conditions: those of the given row alone. -/
import Derived.Test.YtmmigmalblephaaGreatDoorKnownW
import Derived.Test.YtmmigmalblephaaGreatDoorRows
import Derived.Test.YtmmigmalblephaaGreatDoorCards
import Derived.Test.YtmmigmalblephaaGreatDoorTie
import Derived.WalkKit
import Derived.ProofKit
import Derived.OpenShut
import Derived.ShutString
import Derived.ChangeOld
import Derived.Below
import Derived.Carry
import Derived.SevenTiedAt
import Derived.LaidMore
import Derived.Stop.Joined
import Derived.Lib.SmallJoins
namespace Go.Proofs.YtmmigmalblephaaGreatDoor.walOfNothing
open Go.ChangeShapes Go.WideShapes Go.ChangeAt Go.RowKit Go.Sx Go.Joins

noncomputable def run (R : Ranges) : Bool := tells (evCall Tryz.prog R 5000 ov 40 5 [.argl 0, .int .i64 (.var 1)] ⟨.nil, 0⟩)
theorem r1 : run [(0, 20001, 9223372036854775807)] = true := by kernel_rfl
theorem r2 : run [(0, 0, 20000)] = true := by kernel_rfl

theorem walk (s : Value) (n : Nat) (a : Int) (hs : ArgLen s n) (w : World) :
    Calls Tryz.prog 5 #[s, .int .i64 a] w fun r w' => r = .returned (.bool true) ∧ Below w.heap.size w w' := by
  obtain ⟨p, c, rfl, hn⟩ := hs
  unfold maxLen at hn
  have hI : ∀ j, j < 1000 → (Fix.ints [n, a]).ρ j = ([(n : Int), a] : List Int).getD j 0 := fun j hj => Fix.ints_int _ _ hj
  have key : ∀ R, run R = true → RangesOf (Fix.ints [n, a]).ρ R → Calls Tryz.prog 5 #[.slice p n c, .int .i64 a] w fun r w' => r = .returned (.bool true) ∧ Below w.heap.size w w' := fun R hr hR =>
    said (F := Fix.ints [n, a]) (rangeOK_of hR) w (ov_ok _ _ _) hr [.slice p n c, .int .i64 a]
      (by simp [VRs, VR, SI.val, hI _ (show (0:Nat) < 1000 by omega), hI _ (show (1:Nat) < 1000 by omega)])
  by_cases h : n ≤ 20000
  · exact key _ r2 ⟨by rw [hI _ (by omega)]; simp; omega, trivial⟩
  · exact key _ r1 ⟨by rw [hI _ (by omega)]; simp; omega, trivial⟩

set_option maxRecDepth 100000 in
theorem core (W : World) {H : Type} {enc : TypeId × Value → H} {base : Nat} (v0 v1 : Value) {d0 d1 : DataW H} {p0 p1 : List MemPlace}
    (h0 : DataW.Trod enc Tryz.prog W 0 (fun _ => true) true 23 v0 d0 p0) (k0 : Value.okWide Tryz.prog W .any base 23 v0) (_ : ∀ n ∈ d0.weights Tryz.prog 23, n ≤ reachBytes)
    (h1 : DataW.Trod enc Tryz.prog W 0 (fun _ => true) true 3 v1 d1 p1) (k1 : Value.okWide Tryz.prog W .any base 3 v1) (_ : ∀ n ∈ d1.weights Tryz.prog 3, n ≤ reachBytes) :
    Calls Tryz.prog 5 #[v0, v1] W fun r w' => r = .returned (.bool true) ∧ Below W.heap.size W w' := by
  obtain ⟨a0, len0, cap0, rfl⟩ := okWide_slice Tryz.underlying23 k0
  obtain ⟨fuel, hf⟩ := h0
  obtain ⟨n, hn⟩ := argLen_of Tryz.underlying23 (by simpa [Value.cells] using hf)
  obtain ⟨a, rfl, _, _, _⟩ := open_int Tryz.underlying3 k1 h1
  exact walk _ n a hn W

theorem own : ownKnob Tryz.prog.godebug = none := by kernel_rfl
theorem laidOut : laidOutB Tryz.prog = true := by kernel_rfl
def laidL : List (String × DataW Unit) := [("math/bits.deBruijn32tab", Rows.laid_math_bits_deBruijn32tab), ("math/bits.deBruijn64tab", Rows.laid_math_bits_deBruijn64tab), ("internal/strconv.uint64pow10", Rows.laid_internal_strconv_uint64pow10)]
/-- The door's own heap meets the condition. -/
theorem door_met (os : Os) (args : Array Value) : laidMetH Tryz.prog laidL ((World.doorLaid Tryz.prog 400 os).forCall (fun _ _ => 0) ⟨#[], args, []⟩).memory :=
  laidMetH_of_parts3 (fuel := 8) (laidMet_of_run' 8 (by kernel_rfl) (by kernel_rfl)) (by kernel_rfl) (by kernel_rfl)

set_option maxRecDepth 100000 in
theorem lifted (os : Os) (started : os.Started) (H : Type) (enc : TypeId × Value → H) :
    ReturnsInHanded {} Tryz.checked os 5 .any (fun w args => (Rows.walOfNothingSpec.pre enc Tryz.prog Tryz.f5 [] false w args ∧ laidMetH Tryz.prog laidL w) ∧ sizedMet enc Tryz.prog Tryz.f5 (OpenSpec.ofChange Rows.walOfNothingSpec) false w args)
      (Rows.walOfNothingSpec.post enc Tryz.prog Tryz.f5 false true false false) := by
  refine returnsInHanded_of_change_and (C := Tryz.checked) (X := fun w _ => laidMetH Tryz.prog laidL w) (fun _ _ _ hh h => h.of_heap hh) own started (by kernel_rfl) Tryz.func5
    (ChangeSpec.witness_shaped (enc := enc) (C := Tryz.checked) (os := os) (X := fun w _ => laidMetH Tryz.prog laidL w) false (World.doorLaid Tryz.prog 400 os) #[.slice none 0 0, .int .i64 0] 8 rfl (World.shaped_of_RefB (by kernel_rfl) (by kernel_rfl)) (by kernel_rfl) (by kernel_rfl) (by kernel_rfl) (door_met os _)) ?_
  intro W base args ds gs before hval0 hW _ hsz _ _
  have hval : ∀ (j : Nat) t v, Tryz.f5.params[j]? = some t → args[j]? = some v → Value.okWide Tryz.prog W .any base t v := hval0
  have hW' := hW
  obtain ⟨p, q, hA0, hV, rfl, hfz, hnd⟩ := hW
  have hA : DataW.TrodAll enc Tryz.prog W 0 (fun _ => true) true Tryz.f5.params.toList args.toList ds p := hA0
  rw [Tryz.params5] at hA hval
  obtain ⟨v0, vs0, d0, ds0, p0, q0, hargs, rfl, rfl, h0, r0⟩ := trodAll_cons hA
  obtain ⟨v1, vs1, d1, ds1, p1, q1, rfl, rfl, rfl, h1, r1⟩ := trodAll_cons r0
  obtain ⟨rfl, rfl, rfl⟩ := trodAll_nil r1
  obtain rfl : args = #[v0, v1] := by cases args; simp_all
  obtain ⟨rfl, rfl⟩ := trodVars_none hV
  have lt0 : ∀ x ∈ p0, x.block < W.heap.size := by obtain ⟨m, hm⟩ := h0; exact DataW.trod_lt m _ _ _ hm
  have lt1 : ∀ x ∈ p1, x.block < W.heap.size := by obtain ⟨m, hm⟩ := h1; exact DataW.trod_lt m _ _ _ hm
  simp only [List.append_nil] at hW'
  rw [Tryz.params5] at hsz
  have g0 := weights_arg hsz (j := 0) (t := 23) (d := d0) rfl rfl
  have g1 := weights_arg hsz (j := 1) (t := 3) (d := d1) rfl rfl
  refine (core W v0 v1 h0 (hval 0 23 v0 rfl rfl) g0 h1 (hval 1 3 v1 rfl rfl) g1).mono fun e W' ⟨he, hb⟩ => ?_
  subst he
  exact ⟨_, rfl, _, _, _, [], _, [], hW', trodAll_cons_mk (shut_bool Tryz.underlying4 _) trodAll_mk0,
    (trodAll_cons_mk (Below.trod laidOut (by kernel_rfl) (of_decide_eq_true (by kernel_rfl)) h0 hb lt0) (trodAll_cons_mk (Below.trod laidOut (by kernel_rfl) (of_decide_eq_true (by kernel_rfl)) h1 hb lt1) trodAll_mk0)),
    rfl, hb.frame _, fun h => by cases h⟩

theorem over : Rows.walOfNothingRow.holds Tryz.pinned (OpenSpec.ofChange Rows.walOfNothingSpec) :=
  OpenClaim.holds_of_wide 5 Tryz.f5 rfl rfl rfl rfl rfl rfl rfl ⟨rfl, rfl, rfl, rfl, rfl⟩ rfl rfl rfl rfl rfl (by kernel_rfl) Tryz.func5 (by kernel_rfl)
    (of_decide_eq_true (by kernel_rfl)) (by unfold Func.isWrapper; first | (rw [if_pos (by decide +kernel)]; kernel_rfl) | (rw [if_neg (by decide +kernel)]; exact ⟨rfl, rfl⟩))
    (fun os started H enc _ => lifted os started H enc)

theorem proved : Rows.WalOfNothingCardSaid :=
  Claim7.holds_tied_plain_at .later [] [.data, .data, .data] true (true, "872206db0864b4b32f41fac15eba52a4423ecc01de9c00183c530f8318792d79") false
    over (fun _ h => by cases h) (by kernel_rfl) (fun _ h => by cases h) walOfNothing_row_tie rfl ⟨rfl, rfl⟩ (by kernel_rfl) rfl
    (fun f fn hf hfn => by
      obtain rfl : f = 5 := Option.some.inj ((show Tryz.prog.funcNamed "garner/garnerlaw10.WalOfNothing" = some 5 by kernel_rfl).symm.trans hf) |>.symm
      obtain rfl : fn = Tryz.f5 := (Option.some.inj (Tryz.func5.symm.trans hfn)).symm
      exact ⟨by kernel_rfl, fun j t ht => by
        rw [Tryz.params5] at ht
        rcases j with _ | _ | j
        · simp at ht; subst ht; kernel_rfl
        · simp at ht; subst ht; kernel_rfl
        · simp at ht⟩)
    (by kernel_rfl)
#print axioms proved
end Go.Proofs.YtmmigmalblephaaGreatDoor.walOfNothing
