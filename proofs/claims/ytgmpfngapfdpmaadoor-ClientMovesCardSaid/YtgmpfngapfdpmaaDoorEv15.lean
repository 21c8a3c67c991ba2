/- Starts: the evaluator begins at any memory; what it said of one call is a line of the table for later calls. Conditions: none beyond the ranges that were told. -/
import Derived.Test.YtgmpfngapfdpmaaDoorEv14
namespace Go.Sx
open Go.RowKit
noncomputable section

theorem rep_start (F : Fix) (w : World) (n : Nat) : Rep F w.heap.size w (fun _ => none) w ⟨.nil, n⟩ := by
  have hn : ∀ id, (⟨.nil, n⟩ : AS).get id = none := fun id => Tr.get_nil _ _
  refine ⟨Below.refl _ _, Nat.le_refl _, ?_, ?_, ?_, ?_, fun _ _ => rfl⟩
  all_goals intros; rename_i h; simp [hn] at *

theorem rep_below {F : Fix} {B : Nat} {w0 w w' : World} {σ : Sig} {s : AS} (h : Rep F B w0 σ w s) (hb : Below w.heap.size w w') : Rep F B w0 σ w' s := by
  refine ⟨h.below.trans (hb.mono h.size), Nat.le_trans h.size hb.size, ?_, h.own, h.inj, h.ro, h.fresh⟩
  intro id o ho
  obtain ⟨b, κ, h1, h2⟩ := h.obj id o ho
  refine ⟨b, κ, h1, fun hl => ?_⟩
  obtain ⟨ob, h3, h4⟩ := h2 hl
  have hlt : b < w.heap.size := (Array.getElem?_eq_some_iff.mp h3).1
  exact ⟨ob, (hb.block b hlt).trans h3, h4⟩

/-- A name's values that do not matter. -/
def Fix.dull : Fix := ⟨fun _ => 0, fun _ => [], fun _ => by simp, fun _ => rfl⟩

/-- One line of the table: a function without arguments that answers true and leaves all as it was. -/
def saysTrue (g : FuncId) : CallF := fun f l s => match Nat.beq f g, l with
  | true, [] => some (.bool true, s)
  | _, _ => none

def tells (r : Option (AV × AS)) : Bool := match r with
  | some (.bool b, _) => b
  | _ => false

theorem tells_some {r : Option (AV × AS)} (h : tells r = true) : ∃ s, r = some (.bool true, s) := by
  unfold tells at h
  split at h
  · subst h; exact ⟨_, rfl⟩
  · cases h

/-- What the evaluator says of a call, in any memory: the call answers true, and what was there is as it was. -/
theorem said {P : Program} {R : Ranges} {F : Fix} (hR : RangeOK F R) {n d : Nat} {ov : CallF} {f : FuncId} {as : List AV} {m : Nat}
    (w : World) (hov : CallOK F w.heap.size w P ov)
    (h : tells (evCall P R n ov d f as ⟨.nil, m⟩) = true) (vs : List Value) (hvs : VRs F (fun _ => none) as vs) :
    Calls P f vs.toArray w fun e w' => e = .returned (.bool true) ∧ Below w.heap.size w w' := by
  obtain ⟨s, hs⟩ := tells_some h
  refine (evCall_ok hR hov d f as _ _ _ hs _ w vs hvs (rep_start F w m)).mono ?_
  rintro e w' ⟨σ', rv, rfl, hv, _, hrep⟩
  simp only [VR] at hv
  exact ⟨by rw [hv], hrep.below⟩

theorem none_ok (F : Fix) (B : Nat) (w0 : World) (P : Program) : CallOK F B w0 P (fun _ _ _ => none) := by
  intro f as s v s' h; cases h

theorem range_nil (F : Fix) : RangeOK F [] := by intro i a b h; cases h

/-- A function without arguments that the evaluator says answers true: so it does in every memory. -/
theorem said_any {P : Program} {n d : Nat} {g : FuncId} (h : tells (evCall P [] n (fun _ _ _ => none) d g [] ⟨.nil, 0⟩) = true) (w : World) :
    Calls P g #[] w fun e w' => e = .returned (.bool true) ∧ Below w.heap.size w w' :=
  said (F := .dull) (range_nil _) w (none_ok _ _ _ _) h [] (by simp [VRs])

theorem saysTrue_ok {P : Program} {g : FuncId} (h : ∀ w, Calls P g #[] w fun e w' => e = .returned (.bool true) ∧ Below w.heap.size w w') (F : Fix) (B : Nat) (w0 : World) :
    CallOK F B w0 P (saysTrue g) := by
  intro f as s v s' hs σ w vs hvs hrep
  unfold saysTrue at hs
  split at hs
  · rename_i hfg
    obtain rfl : f = g := Nat.eq_of_beq_eq_true hfg
    simp only [Option.some.injEq, Prod.mk.injEq] at hs
    obtain ⟨rfl, rfl⟩ := hs
    cases vs with
    | cons _ _ => simp [VRs] at hvs
    | nil =>
      refine (h w).mono ?_
      rintro e w' ⟨rfl, hb⟩
      exact ⟨σ, _, rfl, by simp [VR], Sig.le_refl _, rep_below hrep hb⟩
  · cases hs

/-- Ranges, one by one. -/
def RangesOf (ρ : Nat → Int) : Ranges → Prop
  | [] => True
  | (i, a, b) :: l => (a ≤ ρ i ∧ ρ i ≤ b) ∧ RangesOf ρ l
theorem rangeOK_of {F : Fix} : ∀ {R : Ranges}, RangesOf F.ρ R → RangeOK F R
  | [], _ => range_nil F
  | (j, a, b) :: l, h => by
    intro i x y hi
    unfold rlook at hi
    split at hi
    · rename_i e; subst e
      simp only [Option.some.injEq, Prod.mk.injEq] at hi
      obtain ⟨rfl, rfl⟩ := hi
      exact h.1
    · exact rangeOK_of h.2 i x y hi
/-- Names for given integers and given rows of bytes: the integers are 0, 1, ..; the rows' lengths are 1000, 1001, .. -/
def Fix.of (l : List Int) (δ : Nat → List UInt8) (h : ∀ d, (δ d).length ≤ 1099511627776) : Fix :=
  ⟨fun i => if i < 1000 then l.getD i 0 else ((δ (i - 1000)).length : Int), δ, h, fun d => by rw [if_neg (by omega)]; simp⟩
def Fix.ints (l : List Int) : Fix := Fix.of l (fun _ => []) (fun _ => by simp)

theorem row_end_same {w w' : World} (h : Below w.heap.size w w') : w'.output = w.output := h.output
end
end Go.Sx
