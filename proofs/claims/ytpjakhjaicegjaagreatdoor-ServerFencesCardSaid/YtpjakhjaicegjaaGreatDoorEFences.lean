/- 'garnerlaw20.ServerFences': whatever the input: true; the input reads as it did. Conditions: those of the given row alone. -/
import Derived.Test.YtpjakhjaicegjaaGreatDoorEFencesWalk
import Derived.Test.YtpjakhjaicegjaaGreatDoorEFencesFacts
import Derived.Test.YtpjakhjaicegjaaGreatDoorSyG
import Derived.Test.YtpjakhjaicegjaaGreatDoorRows
import Derived.Test.YtpjakhjaicegjaaGreatDoorCards
import Derived.Test.YtpjakhjaicegjaaGreatDoorTie
import Derived.WalkKit
import Derived.ProofKit
import Derived.OpenShut
import Derived.ShutString
import Derived.ChangeOld
import Derived.Below
import Derived.Carry
import Derived.SevenTiedAt
import Derived.LaidMore
import Derived.Stop.Joined
import Derived.Lib.SmallJoins
namespace Go.Proofs.YtpjakhjaicegjaaGreatDoor.serverFences
open Go.ChangeShapes Go.WideShapes Go.ChangeAt Go.RowKit Go.Sy Go.Joins

set_option maxRecDepth 100000 in
theorem core (W : World) {H : Type} {enc : TypeId × Value → H} {base : Nat} (v0 v1 v2 : Value) {d0 d1 d2 : DataW H} {p0 p1 p2 : List MemPlace}
    (h0 : DataW.Trod enc Tryz.prog W 0 (fun _ => true) true 3 v0 d0 p0) (k0 : Value.okWide Tryz.prog W .any base 3 v0) (_ : ∀ n ∈ d0.weights Tryz.prog 3, n ≤ reachBytes)
    (h1 : DataW.Trod enc Tryz.prog W 0 (fun _ => true) true 4 v1 d1 p1) (k1 : Value.okWide Tryz.prog W .any base 4 v1) (_ : ∀ n ∈ d1.weights Tryz.prog 4, n ≤ reachBytes)
    (h2 : DataW.Trod enc Tryz.prog W 0 (fun _ => true) true 25 v2 d2 p2) (k2 : Value.okWide Tryz.prog W .any base 25 v2) (g2 : ∀ n ∈ d2.weights Tryz.prog 25, n ≤ reachBytes) :
    Calls Tryz.prog 5 #[v0, v1, v2] W fun r w' => r = .returned (.bool true) ∧ Below W.heap.size W w' := by
  obtain ⟨a, rfl, _, _, _⟩ := open_int Tryz.underlying3 k0 h0
  obtain ⟨b, rfl, _⟩ := open_bool Tryz.underlying4 k1 h1
  obtain ⟨a0, len0, cap0, rfl⟩ := okWide_slice Tryz.underlying25 k2
  obtain ⟨fuel, hf⟩ := h2
  have hf' : DataW.trod enc Tryz.prog W 0 (fun _ => true) true fuel 25 [.slice a0 len0 cap0] = some (d2, p2) := by simpa [Value.cells] using hf
  obtain ⟨n, hn, hm⟩ := argLen_small Tryz.underlying25 (of_decide_eq_true (by kernel_rfl)) hf' g2
  obtain ⟨l, hl, hll⟩ := argBytes_of Tryz.underlying25 Tryz.underlying5 (by kernel_rfl) hf'
  exact walk a b _ l W hl (by rw [hll n hn]; exact hm)

theorem own : ownKnob Tryz.prog.godebug = none := by kernel_rfl
theorem laidOut : laidOutB Tryz.prog = true := seat.laidOut
def laidL : List (String × DataW Unit) := [("math/bits.deBruijn32tab", Rows.laid_math_bits_deBruijn32tab), ("math/bits.deBruijn64tab", Rows.laid_math_bits_deBruijn64tab), ("internal/strconv.uint64pow10", Rows.laid_internal_strconv_uint64pow10), ("strconv.ErrRange", Rows.laid_strconv_ErrRange), ("strconv.ErrSyntax", Rows.laid_strconv_ErrSyntax)]
/-- The door's own heap meets the condition. -/
theorem door_met (os : Os) (args : Array Value) : laidMetH Tryz.prog laidL ((World.doorLaid Tryz.prog 400 os).forCall (fun _ _ => 0) ⟨#[], args, []⟩).memory :=
  laidMetH_of_parts3 (fuel := 8) (laidMet_of_run' 8 (by kernel_rfl) (by kernel_rfl)) (by kernel_rfl) (by kernel_rfl)

set_option maxRecDepth 100000 in
theorem lifted (os : Os) (started : os.Started) (H : Type) (enc : TypeId × Value → H) :
    ReturnsInHanded {} Tryz.checked os 5 .any (fun w args => (Rows.serverFencesSpec.pre enc Tryz.prog Tryz.f5 [] false w args ∧ laidMetH Tryz.prog laidL w) ∧ sizedMet enc Tryz.prog Tryz.f5 (OpenSpec.ofChange Rows.serverFencesSpec) false w args)
      (Rows.serverFencesSpec.post enc Tryz.prog Tryz.f5 false true false false) := by
  refine returnsInHanded_of_change_and (C := Tryz.checked) (X := fun w _ => laidMetH Tryz.prog laidL w) (fun _ _ _ hh h => h.of_heap hh) own started (by kernel_rfl) Tryz.func5
    (ChangeSpec.witness_shaped (enc := enc) (C := Tryz.checked) (os := os) (X := fun w _ => laidMetH Tryz.prog laidL w) false (World.doorLaid Tryz.prog 400 os) #[.int .i64 0, .bool false, .slice none 0 0] 8 rfl (World.shaped_of_RefB (by kernel_rfl) (by kernel_rfl)) (by kernel_rfl) (by kernel_rfl) (by kernel_rfl) (door_met os _)) ?_
  intro W base args ds gs before hval0 hW _ hsz _ _
  have hval : ∀ (j : Nat) t v, Tryz.f5.params[j]? = some t → args[j]? = some v → Value.okWide Tryz.prog W .any base t v := hval0
  have hW' := hW
  obtain ⟨p, q, hA0, hV, rfl, hfz, hnd⟩ := hW
  have hA : DataW.TrodAll enc Tryz.prog W 0 (fun _ => true) true Tryz.f5.params.toList args.toList ds p := hA0
  rw [Tryz.params5] at hA hval
  obtain ⟨v0, vs0, d0, ds0, p0, q0, hargs, rfl, rfl, h0, r0⟩ := trodAll_cons hA
  obtain ⟨v1, vs1, d1, ds1, p1, q1, rfl, rfl, rfl, h1, r1⟩ := trodAll_cons r0
  obtain ⟨v2, vs2, d2, ds2, p2, q2, rfl, rfl, rfl, h2, r2⟩ := trodAll_cons r1
  obtain ⟨rfl, rfl, rfl⟩ := trodAll_nil r2
  obtain rfl : args = #[v0, v1, v2] := by cases args; simp_all
  obtain ⟨rfl, rfl⟩ := trodVars_none hV
  have lt0 : ∀ x ∈ p0, x.block < W.heap.size := by obtain ⟨m, hm⟩ := h0; exact DataW.trod_lt m _ _ _ hm
  have lt1 : ∀ x ∈ p1, x.block < W.heap.size := by obtain ⟨m, hm⟩ := h1; exact DataW.trod_lt m _ _ _ hm
  have lt2 : ∀ x ∈ p2, x.block < W.heap.size := by obtain ⟨m, hm⟩ := h2; exact DataW.trod_lt m _ _ _ hm
  simp only [List.append_nil] at hW'
  rw [Tryz.params5] at hsz
  have g0 := weights_arg hsz (j := 0) (t := 3) (d := d0) rfl rfl
  have g1 := weights_arg hsz (j := 1) (t := 4) (d := d1) rfl rfl
  have g2 := weights_arg hsz (j := 2) (t := 25) (d := d2) rfl rfl
  refine (core W v0 v1 v2 h0 (hval 0 3 v0 rfl rfl) g0 h1 (hval 1 4 v1 rfl rfl) g1 h2 (hval 2 25 v2 rfl rfl) g2).mono fun e W' ⟨he, hb⟩ => ?_
  subst he
  exact ⟨_, rfl, _, _, _, [], _, [], hW', trodAll_cons_mk (shut_bool Tryz.underlying4 _) trodAll_mk0,
    (trodAll_cons_mk (Below.trod laidOut (by kernel_rfl) (of_decide_eq_true (by kernel_rfl)) h0 hb lt0) (trodAll_cons_mk (Below.trod laidOut (by kernel_rfl) (of_decide_eq_true (by kernel_rfl)) h1 hb lt1) (trodAll_cons_mk (Below.trod laidOut (by kernel_rfl) (of_decide_eq_true (by kernel_rfl)) h2 hb lt2) trodAll_mk0))),
    rfl, hb.frame _, fun h => by cases h⟩

theorem over : Rows.serverFencesRow.holds Tryz.pinned (OpenSpec.ofChange Rows.serverFencesSpec) :=
  OpenClaim.holds_of_wide 5 Tryz.f5 rfl rfl rfl rfl rfl rfl rfl ⟨rfl, rfl, rfl, rfl, rfl⟩ rfl rfl rfl rfl rfl (by kernel_rfl) Tryz.func5 (Go.Sy.joined_of (P := Tryz.prog) (by kernel_rfl) seat.laidOut seat.mapsRowed (by kernel_rfl) (by kernel_rfl) (by kernel_rfl) seat.stops (by kernel_rfl) seat.stopKnobs inPlace unf rec_ named (by kernel_rfl) (by kernel_rfl) (by kernel_rfl) (by kernel_rfl) (by kernel_rfl) (by kernel_rfl) (by kernel_rfl) (by kernel_rfl) (by kernel_rfl) seat.plain (by kernel_rfl) seat.heard seat.enter seat.lifts seat.make (by kernel_rfl) (by kernel_rfl) (by kernel_rfl) (by kernel_rfl))
    (of_decide_eq_true (by kernel_rfl)) (by unfold Func.isWrapper; first | (rw [if_pos (by decide +kernel)]; kernel_rfl) | (rw [if_neg (by decide +kernel)]; exact ⟨rfl, rfl⟩))
    (fun os started H enc _ => lifted os started H enc)

theorem proved : Rows.ServerFencesCardSaid :=
  Claim7.holds_tied_plain_at .later [] [.data, .data, .data, .sentinel, .sentinel] true (true, "a32e7d56c02c97397d2ab683141debace7315989115950a5b50e18010aae3062") true
    over (fun _ h => by cases h) (by kernel_rfl) (fun _ h => by cases h) serverFences_row_tie rfl ⟨rfl, rfl⟩ (by kernel_rfl) rfl
    (fun f fn hf hfn => by
      obtain rfl : f = 5 := Option.some.inj ((show Tryz.prog.funcNamed "garner/garnerlaw20.ServerFences" = some 5 by kernel_rfl).symm.trans hf) |>.symm
      obtain rfl : fn = Tryz.f5 := (Option.some.inj (Tryz.func5.symm.trans hfn)).symm
      exact ⟨by kernel_rfl, fun j t ht => by
        rw [Tryz.params5] at ht
        rcases j with _ | _ | _ | j
        · simp at ht; subst ht; kernel_rfl
        · simp at ht; subst ht; kernel_rfl
        · simp at ht; subst ht; kernel_rfl
        · simp at ht⟩)
    (by kernel_rfl)
#print axioms proved
end Go.Proofs.YtpjakhjaicegjaaGreatDoor.serverFences
