/- 'garnerlaw22.ClientLeads': whatever the input: true; the input reads as it did. Conditions: those of the given row alone. -/
import Derived.Test.YtgmpfngapfdpmaaGreatDoorKnownZ
import Derived.Test.YtgmpfngapfdpmaaGreatDoorRows
import Derived.Test.YtgmpfngapfdpmaaGreatDoorCards
import Derived.Test.YtgmpfngapfdpmaaGreatDoorTie
import Derived.WalkKit
import Derived.ProofKit
import Derived.OpenShut
import Derived.ShutString
import Derived.ChangeOld
import Derived.Below
import Derived.Carry
import Derived.SevenTiedAt
import Derived.LaidMore
import Derived.Stop.Joined
import Derived.Lib.SmallJoins
namespace Go.Proofs.YtgmpfngapfdpmaaGreatDoor.clientLeads
open Go.ChangeShapes Go.WideShapes Go.ChangeAt Go.RowKit Go.Sx Go.Joins

noncomputable def run (R : Ranges) (x : AV) : Bool := tells (evCall Tryz.prog R 2000 ov 30 3 [x] ⟨.nil, 0⟩)
theorem r1 : run [(0, -9223372036854775808, -2)] (.int .i64 (.var 0)) = true := by kernel_rfl
theorem r2 : run [(0, 3, 9223372036854775807)] (.int .i64 (.var 0)) = true := by kernel_rfl
theorem r3 : run [] (.int .i64 (.lit (-1))) = true := by kernel_rfl
theorem r4 : run [] (.int .i64 (.lit 0)) = true := by kernel_rfl
theorem r5 : run [] (.int .i64 (.lit 1)) = true := by kernel_rfl
theorem r6 : run [] (.int .i64 (.lit 2)) = true := by kernel_rfl

theorem walk (a : Int) (wa : (Lit.int .i64 a).wf = true) (w : World) :
    Calls Tryz.prog 3 #[.int .i64 a] w fun r w' => r = .returned (.bool true) ∧ Below w.heap.size w w' := by
  have key : ∀ R, run R (.int .i64 (.var 0)) = true → RangesOf (Fix.ints [a]).ρ R → Calls Tryz.prog 3 #[.int .i64 a] w fun r w' => r = .returned (.bool true) ∧ Below w.heap.size w w' := fun R hr hR =>
    said (F := Fix.ints [a]) (rangeOK_of hR) w (ov_ok _ _ _) hr [.int .i64 a] (by simp [VRs, VR, SI.val, Fix.ints_int _ _ (show (0:Nat) < 1000 by omega)])
  have lit : ∀ n : Int, a = n → run [] (.int .i64 (.lit n)) = true → Calls Tryz.prog 3 #[.int .i64 a] w fun r w' => r = .returned (.bool true) ∧ Below w.heap.size w w' := fun n hn hr =>
    said (F := Fix.dull) (range_nil _) w (ov_ok _ _ _) hr [.int .i64 a] (by simp [VRs, VR, SI.val, hn])
  simp [Lit.wf, IntKind.min, IntKind.max, IntKind.bits, IntKind.signed] at wa
  by_cases h1 : a ≤ -2
  · exact key _ r1 ⟨by rw [Fix.ints_int _ _ (by omega)]; simp; omega, trivial⟩
  by_cases h2 : 3 ≤ a
  · exact key _ r2 ⟨by rw [Fix.ints_int _ _ (by omega)]; simp; omega, trivial⟩
  rcases (by omega : a = -1 ∨ a = 0 ∨ a = 1 ∨ a = 2) with h | h | h | h
  · exact lit _ h r3
  · exact lit _ h r4
  · exact lit _ h r5
  · exact lit _ h r6

set_option maxRecDepth 100000 in
theorem core (W : World) {H : Type} {enc : TypeId × Value → H} {base : Nat} (v0 : Value) {d0 : DataW H} {p0 : List MemPlace}
    (h0 : DataW.Trod enc Tryz.prog W 0 (fun _ => true) true 3 v0 d0 p0) (k0 : Value.okWide Tryz.prog W .any base 3 v0) (_ : ∀ n ∈ d0.weights Tryz.prog 3, n ≤ reachBytes) :
    Calls Tryz.prog 3 #[v0] W fun r w' => r = .returned (.bool true) ∧ Below W.heap.size W w' := by
  obtain ⟨a, rfl, _, _, wa⟩ := open_int Tryz.underlying3 k0 h0
  exact walk a wa W

theorem own : ownKnob Tryz.prog.godebug = none := by kernel_rfl
theorem laidOut : laidOutB Tryz.prog = true := by kernel_rfl
def laidL : List (String × DataW Unit) := [("math/bits.deBruijn64tab", Rows.laid_math_bits_deBruijn64tab)]
/-- The door's own heap meets the condition. -/
theorem door_met (os : Os) (args : Array Value) : laidMetH Tryz.prog laidL ((World.doorLaid Tryz.prog 400 os).forCall (fun _ _ => 0) ⟨#[], args, []⟩).memory :=
  laidMetH_of_parts3 (fuel := 8) (laidMet_of_run' 8 (by kernel_rfl) (by kernel_rfl)) (by kernel_rfl) (by kernel_rfl)

set_option maxRecDepth 100000 in
theorem lifted (os : Os) (started : os.Started) (H : Type) (enc : TypeId × Value → H) :
    ReturnsInHanded {} Tryz.checked os 3 .any (fun w args => (Rows.clientLeadsSpec.pre enc Tryz.prog Tryz.f3 [] false w args ∧ laidMetH Tryz.prog laidL w) ∧ sizedMet enc Tryz.prog Tryz.f3 (OpenSpec.ofChange Rows.clientLeadsSpec) false w args)
      (Rows.clientLeadsSpec.post enc Tryz.prog Tryz.f3 false true false false) := by
  refine returnsInHanded_of_change_and (C := Tryz.checked) (X := fun w _ => laidMetH Tryz.prog laidL w) (fun _ _ _ hh h => h.of_heap hh) own started (by kernel_rfl) Tryz.func3
    (ChangeSpec.witness_shaped (enc := enc) (C := Tryz.checked) (os := os) (X := fun w _ => laidMetH Tryz.prog laidL w) false (World.doorLaid Tryz.prog 400 os) #[.int .i64 0] 8 rfl (World.shaped_of_RefB (by kernel_rfl) (by kernel_rfl)) (by kernel_rfl) (by kernel_rfl) (by kernel_rfl) (door_met os _)) ?_
  intro W base args ds gs before hval0 hW _ hsz _ _
  have hval : ∀ (j : Nat) t v, Tryz.f3.params[j]? = some t → args[j]? = some v → Value.okWide Tryz.prog W .any base t v := hval0
  have hW' := hW
  obtain ⟨p, q, hA0, hV, rfl, hfz, hnd⟩ := hW
  have hA : DataW.TrodAll enc Tryz.prog W 0 (fun _ => true) true Tryz.f3.params.toList args.toList ds p := hA0
  rw [Tryz.params3] at hA hval
  obtain ⟨v0, vs0, d0, ds0, p0, q0, hargs, rfl, rfl, h0, r0⟩ := trodAll_cons hA
  obtain ⟨rfl, rfl, rfl⟩ := trodAll_nil r0
  obtain rfl : args = #[v0] := by cases args; simp_all
  obtain ⟨rfl, rfl⟩ := trodVars_none hV
  have lt0 : ∀ x ∈ p0, x.block < W.heap.size := by obtain ⟨m, hm⟩ := h0; exact DataW.trod_lt m _ _ _ hm
  simp only [List.append_nil] at hW'
  rw [Tryz.params3] at hsz
  have g0 := weights_arg hsz (j := 0) (t := 3) (d := d0) rfl rfl
  refine (core W v0 h0 (hval 0 3 v0 rfl rfl) g0).mono fun e W' ⟨he, hb⟩ => ?_
  subst he
  exact ⟨_, rfl, _, _, _, [], _, [], hW', trodAll_cons_mk (shut_bool Tryz.underlying4 _) trodAll_mk0,
    (trodAll_cons_mk (Below.trod laidOut (by kernel_rfl) (of_decide_eq_true (by kernel_rfl)) h0 hb lt0) trodAll_mk0),
    rfl, hb.frame _, fun h => by cases h⟩

theorem over : Rows.clientLeadsRow.holds Tryz.pinned (OpenSpec.ofChange Rows.clientLeadsSpec) :=
  OpenClaim.holds_of_wide 3 Tryz.f3 rfl rfl rfl rfl rfl rfl rfl ⟨rfl, rfl, rfl, rfl, rfl⟩ rfl rfl rfl rfl rfl (by kernel_rfl) Tryz.func3 (by kernel_rfl)
    (of_decide_eq_true (by kernel_rfl)) (by unfold Func.isWrapper; first | (rw [if_pos (by decide +kernel)]; kernel_rfl) | (rw [if_neg (by decide +kernel)]; exact ⟨rfl, rfl⟩))
    (fun os started H enc _ => lifted os started H enc)

theorem proved : Rows.ClientLeadsCardSaid :=
  Claim7.holds_tied_plain_at .later [] [.data] true (true, "e9e9f9c2c2b82cba2d933c51005d0d4f1e95e28fc24c4941ff25554d77c8f86b") false
    over (fun _ h => by cases h) (by kernel_rfl) (fun _ h => by cases h) clientLeads_row_tie rfl ⟨rfl, rfl⟩ (by kernel_rfl) rfl
    (fun f fn hf hfn => by
      obtain rfl : f = 3 := Option.some.inj ((show Tryz.prog.funcNamed "garner/garnerlaw22.ClientLeads" = some 3 by kernel_rfl).symm.trans hf) |>.symm
      obtain rfl : fn = Tryz.f3 := (Option.some.inj (Tryz.func3.symm.trans hfn)).symm
      exact ⟨by kernel_rfl, fun j t ht => by
        rw [Tryz.params3] at ht
        rcases j with _ | j
        · simp at ht; subst ht; kernel_rfl
        · simp at ht⟩)
    (by kernel_rfl)
#print axioms proved
end Go.Proofs.YtgmpfngapfdpmaaGreatDoor.clientLeads
