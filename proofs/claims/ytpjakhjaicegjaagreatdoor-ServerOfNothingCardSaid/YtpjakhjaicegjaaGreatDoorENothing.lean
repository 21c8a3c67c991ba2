/- 'garnerlaw20.ServerOfNothing': whatever the input: true; the input reads as it did. Conditions: those of the given row alone. -/
import Derived.Test.YtpjakhjaicegjaaGreatDoorENothingRun
import Derived.Test.YtpjakhjaicegjaaGreatDoorENothingFacts
import Derived.Test.YtpjakhjaicegjaaGreatDoorRows
import Derived.Test.YtpjakhjaicegjaaGreatDoorCards
import Derived.Test.YtpjakhjaicegjaaGreatDoorTie
import Derived.WalkKit
import Derived.ProofKit
import Derived.OpenShut
import Derived.ShutString
import Derived.ChangeOld
import Derived.Below
import Derived.Carry
import Derived.SevenTiedAt
import Derived.LaidMore
import Derived.Stop.Joined
import Derived.Lib.SmallJoins
namespace Go.Proofs.YtpjakhjaicegjaaGreatDoor.serverOfNothing
open Go.ChangeShapes Go.WideShapes Go.ChangeAt Go.RowKit Go.Sy Go.Joins

theorem cells38 : Tryz.prog.cellsOf 38 = 5 := by kernel_rfl
theorem cells3 : Tryz.prog.cellsOf 3 = 1 := by kernel_rfl
theorem cells33 : Tryz.prog.cellsOf 33 = 1 := by kernel_rfl
theorem cells25 : Tryz.prog.cellsOf 25 = 1 := by kernel_rfl
theorem i64_wf {a : Int} (h : (Lit.int .i64 a).wf = true) : -9223372036854775808 ≤ a ∧ a ≤ 9223372036854775807 := by
  simp [Lit.wf, IntKind.min, IntKind.max, IntKind.bits, IntKind.signed] at h
  omega
set_option maxRecDepth 100000 in
theorem core (W : World) {H : Type} {enc : TypeId × Value → H} {base : Nat} (v1 v2 : Value) {d1 d2 : DataW H} {p1 p2 : List MemPlace}
    (h1 : DataW.Trod enc Tryz.prog W 0 (fun _ => true) true 38 v1 d1 p1) (k1 : Value.okWide Tryz.prog W .any base 38 v1) (g1 : ∀ n ∈ d1.weights Tryz.prog 38, n ≤ reachBytes)
    (h2 : DataW.Trod enc Tryz.prog W 0 (fun _ => true) true 3 v2 d2 p2) (k2 : Value.okWide Tryz.prog W .any base 3 v2) (_ : ∀ n ∈ d2.weights Tryz.prog 3, n ≤ reachBytes) :
    Calls Tryz.prog 4 #[v1, v2] W fun r w' => r = .returned (.bool true) ∧ Below W.heap.size W w' := by
  obtain ⟨es, rfl, hs'⟩ := okWide_struct Tryz.underlying38 k1
  obtain ⟨e0, e1, e2, e3, e4, rfl⟩ := array5 (show es.size = 5 by rw [hs']; exact cells38)
  obtain ⟨fuel', hf'⟩ := h1
  obtain ⟨xs, nn, _, hd1, _, hlen, hx⟩ := DataW.trod_struct Tryz.underlying38 hf'
  simp only [Prod.mk.injEq] at hd1
  obtain ⟨rfl, _⟩ := hd1
  have gg : ∀ (j : Nat) (hj : j < 5), ∃ y, xs[j]? = some y := fun j hj => ⟨xs[j]'(by rw [hlen]; simpa using hj), List.getElem?_eq_getElem _⟩
  have f0 : DataW.trod enc Tryz.prog W 0 (fun _ => true) true nn 3 ((List.drop 0 [e0, e1, e2, e3, e4]).take (Tryz.prog.cellsOf 3)) = xs[0]? := hx 0 _ rfl
  have f1 : DataW.trod enc Tryz.prog W 0 (fun _ => true) true nn 3 ((List.drop 1 [e0, e1, e2, e3, e4]).take (Tryz.prog.cellsOf 3)) = xs[1]? := hx 1 _ rfl
  have f2 : DataW.trod enc Tryz.prog W 0 (fun _ => true) true nn 3 ((List.drop 2 [e0, e1, e2, e3, e4]).take (Tryz.prog.cellsOf 3)) = xs[2]? := hx 2 _ rfl
  have f3 : DataW.trod enc Tryz.prog W 0 (fun _ => true) true nn 33 ((List.drop 3 [e0, e1, e2, e3, e4]).take (Tryz.prog.cellsOf 33)) = xs[3]? := hx 3 _ rfl
  have f4 : DataW.trod enc Tryz.prog W 0 (fun _ => true) true nn 25 ((List.drop 4 [e0, e1, e2, e3, e4]).take (Tryz.prog.cellsOf 25)) = xs[4]? := hx 4 _ rfl
  simp only [cells3, cells33, cells25, List.drop_zero, List.drop_succ_cons, List.take_succ_cons, List.take_zero] at f0 f1 f2 f3 f4
  obtain ⟨b0, x0⟩ := gg 0 (by omega)
  obtain ⟨b1, x1⟩ := gg 1 (by omega)
  obtain ⟨b2, x2⟩ := gg 2 (by omega)
  obtain ⟨b3, x3⟩ := gg 3 (by omega)
  obtain ⟨b4, x4⟩ := gg 4 (by omega)
  rw [x0] at f0
  rw [x1] at f1
  rw [x2] at f2
  rw [x3] at f3
  rw [x4] at f4
  obtain ⟨a5, q5, _, w5⟩ := DataW.trod_int Tryz.underlying3 f0
  obtain ⟨a6, q6, _, w6⟩ := DataW.trod_int Tryz.underlying3 f1
  obtain ⟨a7, q7, _, w7⟩ := DataW.trod_int Tryz.underlying3 f2
  simp at q5 q6 q7
  subst q5 q6 q7
  obtain ⟨n2, l2, m2⟩ := argLen_small Tryz.underlying33 (of_decide_eq_true (by kernel_rfl)) f3 (weights_part Tryz.underlying38 g1 (j := 3) (d := b3.1) rfl (by rw [List.getElem?_map, x3]; rfl))
  obtain ⟨n3, l3, m3⟩ := argLen_small Tryz.underlying25 (of_decide_eq_true (by kernel_rfl)) f4 (weights_part Tryz.underlying38 g1 (j := 4) (d := b4.1) rfl (by rw [List.getElem?_map, x4]; rfl))
  obtain ⟨a8, rfl, _, _, w8⟩ := open_int Tryz.underlying3 k2 h2
  exact walk n2 n3 _ _ _ _ _ _ l2 l3 m2 m3 (i64_wf w5) (i64_wf w6) (i64_wf w7) (i64_wf w8) W

theorem own : ownKnob Tryz.prog.godebug = none := by kernel_rfl
theorem laidOut : laidOutB Tryz.prog = true := seat.laidOut
def laidL : List (String × DataW Unit) := [("math/bits.deBruijn32tab", Rows.laid_math_bits_deBruijn32tab), ("math/bits.deBruijn64tab", Rows.laid_math_bits_deBruijn64tab), ("internal/strconv.uint64pow10", Rows.laid_internal_strconv_uint64pow10), ("strconv.ErrRange", Rows.laid_strconv_ErrRange), ("strconv.ErrSyntax", Rows.laid_strconv_ErrSyntax)]
/-- The door's own heap meets the condition. -/
theorem door_met (os : Os) (args : Array Value) : laidMetH Tryz.prog laidL ((World.doorLaid Tryz.prog 400 os).forCall (fun _ _ => 0) ⟨#[], args, []⟩).memory :=
  laidMetH_of_parts3 (fuel := 8) (laidMet_of_run' 8 (by kernel_rfl) (by kernel_rfl)) (by kernel_rfl) (by kernel_rfl)

set_option maxRecDepth 100000 in
theorem lifted (os : Os) (started : os.Started) (H : Type) (enc : TypeId × Value → H) :
    ReturnsInHanded {} Tryz.checked os 4 .any (fun w args => (Rows.serverOfNothingSpec.pre enc Tryz.prog Tryz.f4 [] false w args ∧ laidMetH Tryz.prog laidL w) ∧ sizedMet enc Tryz.prog Tryz.f4 (OpenSpec.ofChange Rows.serverOfNothingSpec) false w args)
      (Rows.serverOfNothingSpec.post enc Tryz.prog Tryz.f4 false true false false) := by
  refine returnsInHanded_of_change_and (C := Tryz.checked) (X := fun w _ => laidMetH Tryz.prog laidL w) (fun _ _ _ hh h => h.of_heap hh) own started (by kernel_rfl) Tryz.func4
    (ChangeSpec.witness_shaped (enc := enc) (C := Tryz.checked) (os := os) (X := fun w _ => laidMetH Tryz.prog laidL w) false (World.doorLaid Tryz.prog 400 os) #[.agg #[.int .i64 0, .int .i64 0, .int .i64 0, .slice none 0 0, .slice none 0 0], .int .i64 0] 8 rfl (World.shaped_of_RefB (by kernel_rfl) (by kernel_rfl)) (by kernel_rfl) (by kernel_rfl) (by kernel_rfl) (door_met os _)) ?_
  intro W base args ds gs before hval0 hW _ hsz _ _
  have hval : ∀ (j : Nat) t v, Tryz.f4.params[j]? = some t → args[j]? = some v → Value.okWide Tryz.prog W .any base t v := hval0
  have hW' := hW
  obtain ⟨p, q, hA0, hV, rfl, hfz, hnd⟩ := hW
  have hA : DataW.TrodAll enc Tryz.prog W 0 (fun _ => true) true Tryz.f4.params.toList args.toList ds p := hA0
  rw [Tryz.params4] at hA hval
  obtain ⟨v0, vs0, d0, ds0, p0, q0, hargs, rfl, rfl, h0, r0⟩ := trodAll_cons hA
  obtain ⟨v1, vs1, d1, ds1, p1, q1, rfl, rfl, rfl, h1, r1⟩ := trodAll_cons r0
  obtain ⟨rfl, rfl, rfl⟩ := trodAll_nil r1
  obtain rfl : args = #[v0, v1] := by cases args; simp_all
  obtain ⟨rfl, rfl⟩ := trodVars_none hV
  have lt0 : ∀ x ∈ p0, x.block < W.heap.size := by obtain ⟨m, hm⟩ := h0; exact DataW.trod_lt m _ _ _ hm
  have lt1 : ∀ x ∈ p1, x.block < W.heap.size := by obtain ⟨m, hm⟩ := h1; exact DataW.trod_lt m _ _ _ hm
  simp only [List.append_nil] at hW'
  rw [Tryz.params4] at hsz
  have g0 := weights_arg hsz (j := 0) (t := 38) (d := d0) rfl rfl
  have g1 := weights_arg hsz (j := 1) (t := 3) (d := d1) rfl rfl
  refine (core W v0 v1 h0 (hval 0 38 v0 rfl rfl) g0 h1 (hval 1 3 v1 rfl rfl) g1).mono fun e W' ⟨he, hb⟩ => ?_
  subst he
  exact ⟨_, rfl, _, _, _, [], _, [], hW', trodAll_cons_mk (shut_bool Tryz.underlying4 _) trodAll_mk0,
    (trodAll_cons_mk (Below.trod laidOut (by kernel_rfl) (of_decide_eq_true (by kernel_rfl)) h0 hb lt0) (trodAll_cons_mk (Below.trod laidOut (by kernel_rfl) (of_decide_eq_true (by kernel_rfl)) h1 hb lt1) trodAll_mk0)),
    rfl, hb.frame _, fun h => by cases h⟩

theorem over : Rows.serverOfNothingRow.holds Tryz.pinned (OpenSpec.ofChange Rows.serverOfNothingSpec) :=
  OpenClaim.holds_of_wide 4 Tryz.f4 rfl rfl rfl rfl rfl rfl rfl ⟨rfl, rfl, rfl, rfl, rfl⟩ rfl rfl rfl rfl rfl (by kernel_rfl) Tryz.func4 (Go.Sy.joined_of (P := Tryz.prog) (by kernel_rfl) seat.laidOut seat.mapsRowed (by kernel_rfl) (by kernel_rfl) (by kernel_rfl) seat.stops (by kernel_rfl) seat.stopKnobs inPlace unf rec_ named (by kernel_rfl) (by kernel_rfl) (by kernel_rfl) (by kernel_rfl) (by kernel_rfl) (by kernel_rfl) (by kernel_rfl) (by kernel_rfl) (by kernel_rfl) seat.plain (by kernel_rfl) seat.heard seat.enter seat.lifts seat.make (by kernel_rfl) (by kernel_rfl) (by kernel_rfl) (by kernel_rfl))
    (of_decide_eq_true (by kernel_rfl)) (by unfold Func.isWrapper; first | (rw [if_pos (by decide +kernel)]; kernel_rfl) | (rw [if_neg (by decide +kernel)]; exact ⟨rfl, rfl⟩))
    (fun os started H enc _ => lifted os started H enc)

theorem proved : Rows.ServerOfNothingCardSaid :=
  Claim7.holds_tied_plain_at .later [] [.data, .data, .data, .sentinel, .sentinel] true (true, "a32e7d56c02c97397d2ab683141debace7315989115950a5b50e18010aae3062") true
    over (fun _ h => by cases h) (by kernel_rfl) (fun _ h => by cases h) serverOfNothing_row_tie rfl ⟨rfl, rfl⟩ (by kernel_rfl) rfl
    (fun f fn hf hfn => by
      obtain rfl : f = 4 := Option.some.inj ((show Tryz.prog.funcNamed "garner/garnerlaw20.ServerOfNothing" = some 4 by kernel_rfl).symm.trans hf) |>.symm
      obtain rfl : fn = Tryz.f4 := (Option.some.inj (Tryz.func4.symm.trans hfn)).symm
      exact ⟨by kernel_rfl, fun j t ht => by
        rw [Tryz.params4] at ht
        rcases j with _ | _ | j
        · simp at ht; subst ht; kernel_rfl
        · simp at ht; subst ht; kernel_rfl
        · simp at ht⟩)
    (by kernel_rfl)
#print axioms proved
end Go.Proofs.YtpjakhjaicegjaaGreatDoor.serverOfNothing
