/- Starts: the evaluator begins at any memory; what it said of one call is a line of the table for later calls. Conditions: none beyond the ranges that were told. -/
import Derived.Test.YtmmigmalblephaaGreatDoorEv14
namespace Go.Sx
open Go.RowKit
noncomputable section

theorem rep_start (F : Fix) (w : World) (n : Nat) : Rep F w.heap.size w (fun _ => none) w ⟨.nil, n⟩ := by
  have hn : ∀ id, (⟨.nil, n⟩ : AS).get id = none := fun id => Tr.get_nil _ _
  refine ⟨Below.refl _ _, Nat.le_refl _, ?_, ?_, ?_, ?_, fun _ _ => rfl⟩
  all_goals intros; rename_i h; simp [hn] at *

theorem rep_below {F : Fix} {B : Nat} {w0 w w' : World} {σ : Sig} {s : AS} (h : Rep F B w0 σ w s) (hb : Below w.heap.size w w') : Rep F B w0 σ w' s := by
  refine ⟨h.below.trans (hb.mono h.size), Nat.le_trans h.size hb.size, ?_, h.own, h.inj, h.ro, h.fresh⟩
  intro id o ho
  obtain ⟨b, κ, h1, h2⟩ := h.obj id o ho
  refine ⟨b, κ, h1, fun hl => ?_⟩
  obtain ⟨ob, h3, h4⟩ := h2 hl
  have hlt : b < w.heap.size := (Array.getElem?_eq_some_iff.mp h3).1
  exact ⟨ob, (hb.block b hlt).trans h3, h4⟩

/-- A name's values that do not matter. -/
def Fix.dull : Fix := ⟨fun _ => 0, fun _ => [], fun _ => by simp, fun _ => rfl, fun _ _ _ => rfl⟩

/-- One line of the table: a function without arguments that answers true and leaves all as it was. -/
def saysTrue (g : FuncId) : CallF := fun f l s => match Nat.beq f g, l with
  | true, [] => some (.bool true, s)
  | _, _ => none

def tells (r : Option (AV × AS)) : Bool := match r with
  | some (.bool b, _) => b
  | _ => false

theorem tells_some {r : Option (AV × AS)} (h : tells r = true) : ∃ s, r = some (.bool true, s) := by
  unfold tells at h
  split at h
  · subst h; exact ⟨_, rfl⟩
  · cases h

/-- What the evaluator says of a call, in any memory: the call answers true, and what was there is as it was. -/
theorem said {P : Program} {R : Ranges} {F : Fix} (hR : RangeOK F R) {n d : Nat} {ov : CallF} {f : FuncId} {as : List AV} {m : Nat}
    (w : World) (hov : CallOK F w.heap.size w P ov)
    (h : tells (evCall P R n ov d f as ⟨.nil, m⟩) = true) (vs : List Value) (hvs : VRs F (fun _ => none) as vs) :
    Calls P f vs.toArray w fun e w' => e = .returned (.bool true) ∧ Below w.heap.size w w' := by
  obtain ⟨s, hs⟩ := tells_some h
  refine (evCall_ok hR hov d f as _ _ _ hs _ w vs hvs (rep_start F w m)).mono ?_
  rintro e w' ⟨σ', rv, rfl, hv, _, hrep⟩
  simp only [VR] at hv
  exact ⟨by rw [hv], hrep.below⟩

theorem none_ok (F : Fix) (B : Nat) (w0 : World) (P : Program) : CallOK F B w0 P (fun _ _ _ => none) := by
  intro f as s v s' h; cases h

theorem range_nil (F : Fix) : RangeOK F [] := by intro i a b h; cases h

/-- A function without arguments that the evaluator says answers true: so it does in every memory. -/
theorem said_any {P : Program} {n d : Nat} {g : FuncId} (h : tells (evCall P [] n (fun _ _ _ => none) d g [] ⟨.nil, 0⟩) = true) (w : World) :
    Calls P g #[] w fun e w' => e = .returned (.bool true) ∧ Below w.heap.size w w' :=
  said (F := .dull) (range_nil _) w (none_ok _ _ _ _) h [] (by simp [VRs])

theorem saysTrue_ok {P : Program} {g : FuncId} (h : ∀ w, Calls P g #[] w fun e w' => e = .returned (.bool true) ∧ Below w.heap.size w w') (F : Fix) (B : Nat) (w0 : World) :
    CallOK F B w0 P (saysTrue g) := by
  intro f as s v s' hs σ w vs hvs hrep
  unfold saysTrue at hs
  split at hs
  · rename_i hfg
    obtain rfl : f = g := Nat.eq_of_beq_eq_true hfg
    simp only [Option.some.injEq, Prod.mk.injEq] at hs
    obtain ⟨rfl, rfl⟩ := hs
    cases vs with
    | cons _ _ => simp [VRs] at hvs
    | nil =>
      refine (h w).mono ?_
      rintro e w' ⟨rfl, hb⟩
      exact ⟨σ, _, rfl, by simp [VR], Sig.le_refl _, rep_below hrep hb⟩
  · cases hs

/-- Ranges, one by one. -/
def RangesOf (ρ : Nat → Int) : Ranges → Prop
  | [] => True
  | (i, a, b) :: l => (a ≤ ρ i ∧ ρ i ≤ b) ∧ RangesOf ρ l
theorem rangeOK_of {F : Fix} : ∀ {R : Ranges}, RangesOf F.ρ R → RangeOK F R
  | [], _ => range_nil F
  | (j, a, b) :: l, h => by
    intro i x y hi
    unfold rlook at hi
    split at hi
    · rename_i e; subst e
      simp only [Option.some.injEq, Prod.mk.injEq] at hi
      obtain ⟨rfl, rfl⟩ := hi
      exact h.1
    · exact rangeOK_of h.2 i x y hi
/-- Names: integers 0, 1, ..; a row's length; a sum. -/
def rhoOf (l : List Int) (δ : Nat → List UInt8) : Nat → Int := fun i =>
  if i < 1000 then l.getD i 0 else if i % 2 = 0 then ((δ ((i - 1000) / 2)).length : Int) else rhoOf l δ ((i - 1001) / 2 / 2000) + rhoOf l δ ((i - 1001) / 2 % 2000)
termination_by i => i
decreasing_by all_goals omega
theorem rhoOf_len (l : List Int) (δ : Nat → List UInt8) (d : Nat) : rhoOf l δ (1000 + 2 * d) = ((δ d).length : Int) := by
  rw [rhoOf, if_neg (by omega), if_pos (by omega)]
  congr 3; omega
theorem rhoOf_sum (l : List Int) (δ : Nat → List UInt8) (a b : Nat) (h : b < 2000) : rhoOf l δ (1001 + 2 * (2000 * a + b)) = rhoOf l δ a + rhoOf l δ b := by
  rw [rhoOf, if_neg (by omega), if_neg (by omega)]
  have h1 : (1001 + 2 * (2000 * a + b) - 1001) / 2 / 2000 = a := by omega
  have h2 : (1001 + 2 * (2000 * a + b) - 1001) / 2 % 2000 = b := by omega
  rw [h1, h2]
theorem rhoOf_int (l : List Int) (δ : Nat → List UInt8) (i : Nat) (h : i < 1000) : rhoOf l δ i = l.getD i 0 := by
  rw [rhoOf, if_pos h]
/-- Names for given integers and given rows of bytes. -/
def Fix.of (l : List Int) (δ : Nat → List UInt8) (h : ∀ d, (δ d).length ≤ 1099511627776) : Fix := ⟨rhoOf l δ, δ, h, rhoOf_len l δ, rhoOf_sum l δ⟩
def Fix.ints (l : List Int) : Fix := Fix.of l (fun _ => []) (fun _ => by simp)
theorem Fix.of_int (l : List Int) (δ : Nat → List UInt8) (h : ∀ d, (δ d).length ≤ 1099511627776) (i : Nat) (hi : i < 1000) : (Fix.of l δ h).ρ i = l.getD i 0 := rhoOf_int l δ i hi
theorem Fix.ints_int (l : List Int) (i : Nat) (hi : i < 1000) : (Fix.ints l).ρ i = l.getD i 0 := rhoOf_int l _ i hi
theorem Fix.ints_sum (l : List Int) (a b : Nat) (h : b < 2000) : (Fix.ints l).ρ (1001 + 2 * (2000 * a + b)) = (Fix.ints l).ρ a + (Fix.ints l).ρ b := rhoOf_sum l _ a b h

/-- A row that came in: its bytes are named. -/
theorem rep_arg {F : Fix} {B : Nat} {w0 w : World} {σ : Sig} {s s' : AS} {id d b off : Nat} {arr : Array Value} {e : TypeId} {fr : Nat × Nat} (h : Rep F B w0 σ w s) (hs : s.new (.rdata d) = some (id, s'))
    (hb : b < B) (hblk : w.heap[b]? = some (.cells arr e fr)) (hrow : (arr.toList.drop off).take (F.δ d).length = (F.δ d).map byteV) :
    σ.le (σ.upd id (b, off)) ∧ (σ.upd id (b, off)) id = some (b, off) ∧ Rep F B w0 (σ.upd id (b, off)) w s' := by
  obtain ⟨h0, hg⟩ := AS.get_new hs
  have hle := Sig.le_upd (b, off) (h.fresh _ h0)
  refine ⟨hle, Sig.upd_same _ _ _, h.below, h.size, ?_, ?_, ?_, ?_, ?_⟩
  · intro j o ho
    rw [hg] at ho
    split at ho
    · rename_i e; subst e
      simp only [Option.some.injEq] at ho
      subst ho
      exact ⟨b, off, Sig.upd_same _ _ _, fun _ => ⟨_, hblk, arr, _, _, hrow, rfl⟩⟩
    · obtain ⟨b', κ', h1, h2⟩ := h.obj j o ho
      exact ⟨b', κ', hle _ _ h1, fun hl => by obtain ⟨ob, h3, h4⟩ := h2 hl; exact ⟨ob, h3, h4.mono hle⟩⟩
  · intro j o b' κ' ho hown hσ
    rw [hg] at ho
    split at ho
    · simp only [Option.some.injEq] at ho; subst ho; cases hown
    · rename_i hne
      rw [Sig.upd_ne _ _ hne] at hσ
      exact h.own j o b' κ' ho hown hσ
  · intro i j o p b' κ' κ'' hij ho hp hown hpown h1 h2
    rw [hg] at ho hp
    split at ho
    · simp only [Option.some.injEq] at ho; subst ho; cases hown
    · split at hp
      · simp only [Option.some.injEq] at hp; subst hp; cases hpown
      · rename_i hi hj
        rw [Sig.upd_ne _ _ hi] at h1
        rw [Sig.upd_ne _ _ hj] at h2
        exact h.inj i j o p b' κ' κ'' hij ho hp hown hpown h1 h2
  · intro j o b' κ' ho hown hl hσ
    rw [hg] at ho
    split at ho
    · rename_i e; subst e
      rw [Sig.upd_same] at hσ
      simp only [Option.some.injEq, Prod.mk.injEq] at hσ
      obtain ⟨rfl, rfl⟩ := hσ
      exact hb
    · rename_i hne
      rw [Sig.upd_ne _ _ hne] at hσ
      exact h.ro j o b' κ' ho hown hl hσ
  · intro j hj
    rw [hg] at hj
    split at hj
    · cases hj
    · rename_i hne
      rw [Sig.upd_ne _ _ hne]
      exact h.fresh j hj

/-- As 'said', from a memory in which something is known. -/
theorem said_from {P : Program} {R : Ranges} {F : Fix} (hR : RangeOK F R) {n d : Nat} {ov : CallF} {f : FuncId} {as : List AV} {s0 : AS} {σ : Sig}
    (w : World) (hov : CallOK F w.heap.size w P ov) (hrep : Rep F w.heap.size w σ w s0)
    (h : tells (evCall P R n ov d f as s0) = true) (vs : List Value) (hvs : VRs F σ as vs) :
    Calls P f vs.toArray w fun e w' => e = .returned (.bool true) ∧ Below w.heap.size w w' := by
  obtain ⟨s, hs⟩ := tells_some h
  refine (evCall_ok hR hov d f as _ _ _ hs _ w vs hvs hrep).mono ?_
  rintro e w' ⟨σ', rv, rfl, hv, _, hrep⟩
  simp only [VR] at hv
  exact ⟨by rw [hv], hrep.below⟩

theorem row_end_same {w w' : World} (h : Below w.heap.size w w') : w'.output = w.output := h.output
end
end Go.Sx
