/- Starts: the evaluator begins at any memory; what it said of one call is a line of the table for later calls. Conditions: none beyond the ranges that were told. -/
import Derived.Test.YtpjakhjaicegjaaGreatDoorSy14
namespace Go.Sy
open Go.RowKit
variable {S : Sg}
noncomputable section

theorem rep_start (F : Fix S) (A : Nat → Prop) (w : World) (n : Nat) : Rep F A w (fun _ => none) w ⟨.nil, n⟩ := by
  have hn : ∀ id, (⟨.nil, n⟩ : AS).get id = none := fun id => Tr.get_nil _ _
  refine ⟨fun _ _ => False, Kept.refl _ _, ?_, ?_, ?_, ?_, fun _ _ => rfl⟩
  all_goals intros; rename_i h; simp [hn] at *

/-- What a call leaves alone stays told. -/
theorem rep_kept {F : Fix S} {A : Nat → Prop} {w0 w w' : World} {σ : Sig} {s : AS} (h : Rep F A w0 σ w s) (hb : Kept (fun _ => False) w w') : Rep F A w0 σ w' s := by
  obtain ⟨φ, h⟩ := h
  have same : ∀ k, k < w.heap.size → heapF w' k = heapF w k := fun k hk => hb.block k hk (fun e => e)
  refine ⟨φ, h.kept.trans hb (fun _ e => e.elim), fun id o ho => ?_, h.own, h.inj, h.ro, h.fresh⟩
  obtain ⟨b, κ, h1, h2, h3⟩ := h.obj id o ho
  refine ⟨b, κ, h1, fun hl => ?_, h3⟩
  have hL := h2 hl
  exact hL.same (same _ (heapF_lt hL.at_root)) fun k hk => same k (heapF_lt (hL.at_foot k hk))
theorem rep_below {F : Fix S} {A : Nat → Prop} {w0 w w' : World} {σ : Sig} {s : AS} (h : Rep F A w0 σ w s) (hb : Below w.heap.size w w') : Rep F A w0 σ w' s :=
  rep_kept h ⟨hb.os, hb.tape, hb.output, hb.size, fun k hk _ => hb.block k hk⟩

/-- One line of the table: a function without arguments that answers true and leaves all as it was. -/
def saysTrue (g : FuncId) : CallF := fun f l s => match Nat.beq f g, l with
  | true, [] => some (.bool true, s)
  | _, _ => none

def tells (r : Option (AV × AS)) : Bool := match r with
  | some (.bool b, _) => b
  | _ => false

theorem tells_some {r : Option (AV × AS)} (h : tells r = true) : ∃ s, r = some (.bool true, s) := by
  unfold tells at h
  split at h
  · subst h; exact ⟨_, rfl⟩
  · cases h

/-- What the evaluator says of a call, in any memory: the call answers true, and what was there is as it was. -/
theorem said {P : Program} {R : Facts} {F : Fix S} (hR : FOK F R) {n d : Nat} {ov : CallF} {lfs : FuncId → LoopF} {f : FuncId} {as : List AV} {m : Nat}
    (w : World) (hov : CallOK F (fun _ => False) w P ov) (hlf : LoopsOK F (fun _ => False) w P lfs)
    (h : tells (evCall P R n ov lfs d f as ⟨.nil, m⟩) = true) (vs : List Value) (hvs : VRs F (fun _ => none) as vs) :
    Calls P f vs.toArray w fun e w' => e = .returned (.bool true) ∧ Below w.heap.size w w' := by
  obtain ⟨s, hs⟩ := tells_some h
  refine (evCall_ok hR hlf hov d f as _ _ _ hs _ w vs hvs (rep_start F _ w m)).mono ?_
  rintro e w' ⟨σ', rv, rfl, hv, _, hrep⟩
  simp only [VR] at hv
  exact ⟨by rw [hv], hrep.kept.below⟩

theorem none_ok (F : Fix S) (A : Nat → Prop) (w0 : World) (P : Program) : CallOK F A w0 P (fun _ _ _ => none) := by
  intro f as s v s' h; cases h

def Facts.none : Facts := ⟨[], []⟩
theorem facts_none (F : Fix S) : FOK F Facts.none := ⟨fun _ _ h => (by cases h), fun _ _ h => (by cases h)⟩

def orElse (a b : CallF) : CallF := fun f l s => match a f l s with
  | some r => some r
  | none => b f l s
theorem orElse_ok {F : Fix S} {A : Nat → Prop} {w0 : World} {P : Program} {a b : CallF} (ha : CallOK F A w0 P a) (hb : CallOK F A w0 P b) : CallOK F A w0 P (orElse a b) := by
  intro f as s v s' h
  unfold orElse at h
  split at h
  · rename_i r hr
    simp only [Option.some.injEq] at h
    subst h
    exact ha f as s v s' hr
  · exact hb f as s v s' h

theorem saysTrue_ok {P : Program} {g : FuncId} (h : ∀ w, Calls P g #[] w fun e w' => e = .returned (.bool true) ∧ Below w.heap.size w w') (F : Fix S) (A : Nat → Prop) (w0 : World) :
    CallOK F A w0 P (saysTrue g) := by
  intro f as s v s' hs σ w vs hvs hrep
  unfold saysTrue at hs
  split at hs
  · rename_i hfg
    obtain rfl : f = g := Nat.eq_of_beq_eq_true hfg
    simp only [Option.some.injEq, Prod.mk.injEq] at hs
    obtain ⟨rfl, rfl⟩ := hs
    cases vs with
    | cons _ _ => simp [VRs] at hvs
    | nil =>
      refine (h w).mono ?_
      rintro e w' ⟨rfl, hb⟩
      exact ⟨σ, _, rfl, by simp [VR], Sig.le_refl _, rep_below hrep hb⟩
  · cases hs

/-- Names for given data. -/
def Fix.of (S : Sg) (l : List (Dat S.U)) : Fix S := fun i => l.getD i .none
@[simp] theorem Fix.of_zero (a : Dat S.U) (l : List (Dat S.U)) : Fix.of S (a :: l) 0 = a := rfl
@[simp] theorem Fix.of_succ (a : Dat S.U) (l : List (Dat S.U)) (i : Nat) : Fix.of S (a :: l) (i + 1) = Fix.of S l i := rfl

/-- Facts, one by one. -/
def RngIs (F : Fix S) : List (Tm × Iv) → Prop
  | [] => True
  | (t, i) :: l => i.has (t.val F).i ∧ RngIs F l
def TrIs (F : Fix S) : List (Tm × Bool) → Prop
  | [] => True
  | (t, b) :: l => (t.val F).b = b ∧ TrIs F l
theorem RngIs.all {F : Fix S} : ∀ {l : List (Tm × Iv)}, RngIs F l → ∀ t i, (t, i) ∈ l → i.has (t.val F).i
  | [], _, _, _, h => by cases h
  | (t, i) :: l, h, t', i', hm => by
    rcases List.mem_cons.1 hm with e | hm
    · cases e; exact h.1
    · exact RngIs.all h.2 t' i' hm
theorem TrIs.all {F : Fix S} : ∀ {l : List (Tm × Bool)}, TrIs F l → ∀ t i, (t, i) ∈ l → (t.val F).b = i
  | [], _, _, _, h => by cases h
  | (t, i) :: l, h, t', i', hm => by
    rcases List.mem_cons.1 hm with e | hm
    · cases e; exact h.1
    · exact TrIs.all h.2 t' i' hm
theorem factsOK {F : Fix S} {R : Facts} (h1 : RngIs F R.rng) (h2 : TrIs F R.tr) : FOK F R := ⟨h1.all, h2.all⟩
theorem Iv.has_ss {a b n : Int} : (⟨some a, some b⟩ : Iv).has n ↔ a ≤ n ∧ n ≤ b := ⟨fun h => ⟨h.1 a rfl, h.2 b rfl⟩, Iv.two_has⟩
theorem Iv.has_sn {a n : Int} : (⟨some a, none⟩ : Iv).has n ↔ a ≤ n := ⟨fun h => h.1 a rfl, fun h => Iv.mk_has (fun x e => by cases e; exact h) (fun _ e => by cases e)⟩
theorem Iv.has_ns {b n : Int} : (⟨none, some b⟩ : Iv).has n ↔ n ≤ b := ⟨fun h => h.2 b rfl, fun h => Iv.mk_has (fun _ e => by cases e) (fun x e => by cases e; exact h)⟩

/-- A row that came in: its bytes are named. -/
theorem rep_arg {F : Fix S} {A : Nat → Prop} {w0 w : World} {σ : Sig} {s s' : AS} {id b off : Nat} {t : Tm} {arr : Array Value} {e : TypeId} {fr : Nat × Nat} (h : Rep F A w0 σ w s) (hs : s.new (.rdata t) = some (id, s'))
    (hb : b < w0.heap.size) (hA : ¬ A b) (hblk : w.heap[b]? = some (.cells arr e fr)) (hrow : (arr.toList.drop off).take (t.val F).d.length = (t.val F).d.map byteV) :
    σ.le (σ.upd id (b, off)) ∧ (σ.upd id (b, off)) id = some (b, off) ∧ Rep F A w0 (σ.upd id (b, off)) w s' := by
  obtain ⟨φ, h⟩ := h
  obtain ⟨h0, hg⟩ := AS.get_new hs
  have hle := Sig.le_upd (b, off) (h.fresh _ h0)
  refine ⟨hle, Sig.upd_same _ _ _, fun j x => if j = id then False else φ j x, h.kept, ?_, ?_, ?_, ?_, ?_⟩
  · intro j o ho
    rw [hg] at ho
    split at ho
    · rename_i e; subst e
      simp only [Option.some.injEq] at ho
      subst ho
      exact ⟨b, off, Sig.upd_same _ _ _, fun hl => LR.mk (ob := .cells arr e fr) hblk ⟨arr, e, fr, hrow, rfl⟩ (fun x hx => by simp at hx) hl, fun ho => by cases ho⟩
    · rename_i hne
      obtain ⟨b', κ', h1, h2, h3⟩ := h.obj j o ho
      simp only [hne, if_false]
      exact ⟨b', κ', hle _ _ h1, fun hl => (h2 hl).mono hle, h3⟩
  · intro j o ho hown x hx
    rw [hg] at ho
    split at ho
    · simp only [Option.some.injEq] at ho; subst ho; cases hown
    · rename_i hne
      simp only [hne, if_false] at hx
      exact h.own j o ho hown x hx
  · intro i j o p hij ho hp hown hpown x h1 h2
    rw [hg] at ho hp
    split at ho
    · simp only [Option.some.injEq] at ho; subst ho; cases hown
    · split at hp
      · simp only [Option.some.injEq] at hp; subst hp; cases hpown
      · rename_i hi hj
        simp only [hi, if_false] at h1
        simp only [hj, if_false] at h2
        exact h.inj i j o p hij ho hp hown hpown x h1 h2
  · intro j o b' κ' ho hown hl hσ
    rw [hg] at ho
    split at ho
    · rename_i e; subst e
      rw [Sig.upd_same] at hσ
      simp only [Option.some.injEq, Prod.mk.injEq] at hσ
      obtain ⟨rfl, rfl⟩ := hσ
      exact ⟨hb, hA⟩
    · rename_i hne
      rw [Sig.upd_ne _ _ hne] at hσ
      exact h.ro j o b' κ' ho hown hl hσ
  · intro j hj
    rw [hg] at hj
    split at hj
    · cases hj
    · rename_i hne
      rw [Sig.upd_ne _ _ hne]
      exact h.fresh j hj

/-- As 'said', from a memory in which something is known. -/
theorem said_from {P : Program} {R : Facts} {F : Fix S} (hR : FOK F R) {n d : Nat} {ov : CallF} {lfs : FuncId → LoopF} {f : FuncId} {as : List AV} {s0 : AS} {σ : Sig}
    (w : World) (hov : CallOK F (fun _ => False) w P ov) (hlf : LoopsOK F (fun _ => False) w P lfs) (hrep : Rep F (fun _ => False) w σ w s0)
    (h : tells (evCall P R n ov lfs d f as s0) = true) (vs : List Value) (hvs : VRs F σ as vs) :
    Calls P f vs.toArray w fun e w' => e = .returned (.bool true) ∧ Below w.heap.size w w' := by
  obtain ⟨s, hs⟩ := tells_some h
  refine (evCall_ok hR hlf hov d f as _ _ _ hs _ w vs hvs hrep).mono ?_
  rintro e w' ⟨σ', rv, rfl, hv, _, hrep⟩
  simp only [VR] at hv
  exact ⟨by rw [hv], hrep.kept.below⟩
end
end Go.Sy
