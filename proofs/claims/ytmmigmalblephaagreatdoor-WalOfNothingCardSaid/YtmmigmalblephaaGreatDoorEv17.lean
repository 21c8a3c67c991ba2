/- slices.Collect(maps.Keys(m)) for a map of integers with at most one entry, as a line of the evaluator's table. Conditions: the two contracts of the seat's own functions. -/
import Derived.Test.YtmmigmalblephaaGreatDoorEv16
import Derived.Lib.SlKeysI
import Derived.Maps.Own
import Derived.Lib.SmallJoins
namespace Go.Sx
open Go.RowKit Go.Maps
open Go.WideElems (Fit rd rg)
noncomputable section

/-- A block that a call has made is taken in. -/
theorem rep_adopt {F : Fix} {B : Nat} {w0 w w' : World} {σ : Sig} {s s' : AS} {id g κ : Nat} {o : AObj} {ob : Obj} (h : Rep F B w0 σ w s) (hb : Below w.heap.size w w') (hs : s.new o = some (id, s'))
    (hown : o.own = true) (hg : w.heap.size ≤ g) (hob : w'.heap[g]? = some ob) (hr : OR F (σ.upd id (g, κ)) κ o ob) :
    σ.le (σ.upd id (g, κ)) ∧ Rep F B w0 (σ.upd id (g, κ)) w' s' := by
  have h' := rep_below h hb
  obtain ⟨h0, hgt⟩ := AS.get_new hs
  have hle := Sig.le_upd (g, κ) (h.fresh _ h0)
  have hold : ∀ j p b κ', s.get j = some p → p.own = true → p.live = true → σ j = some (b, κ') → b < w.heap.size := by
    intro j p b κ' hp _ hl hσ
    obtain ⟨b2, κ2, h1, h2⟩ := h.obj j p hp
    rw [hσ] at h1
    simp only [Option.some.injEq, Prod.mk.injEq] at h1
    obtain ⟨rfl, rfl⟩ := h1
    obtain ⟨ob2, h3, _⟩ := h2 hl
    exact (Array.getElem?_eq_some_iff.mp h3).1
  have live_of : ∀ p : AObj, p.own = true → p.live = true := by intro p hp; cases p <;> first | rfl | cases hp
  refine ⟨hle, h'.below, h'.size, ?_, ?_, ?_, ?_, ?_⟩
  · intro j p hp
    rw [hgt] at hp
    split at hp
    · rename_i e; subst e
      simp only [Option.some.injEq] at hp
      subst hp
      exact ⟨g, κ, Sig.upd_same _ _ _, fun _ => ⟨ob, hob, hr⟩⟩
    · obtain ⟨b', κ', h1, h2⟩ := h'.obj j p hp
      exact ⟨b', κ', hle _ _ h1, fun hl => by obtain ⟨ob, h3, h4⟩ := h2 hl; exact ⟨ob, h3, h4.mono hle⟩⟩
  · intro j p b κ' hp hpo hσ
    rw [hgt] at hp
    split at hp
    · rename_i e; subst e
      rw [Sig.upd_same] at hσ
      simp only [Option.some.injEq, Prod.mk.injEq] at hσ
      obtain ⟨rfl, rfl⟩ := hσ
      exact Nat.le_trans h.size hg
    · rename_i hne
      rw [Sig.upd_ne _ _ hne] at hσ
      exact h.own j p b κ' hp hpo hσ
  · intro i j p q b κ' κ'' hij hp hq hpo hqo h1 h2
    rw [hgt] at hp hq
    split at hp
    · rename_i ei
      split at hq
      · rename_i ej; exact hij (ei.trans ej.symm)
      · rename_i hj
        subst ei
        rw [Sig.upd_same] at h1
        rw [Sig.upd_ne _ _ hj] at h2
        simp only [Option.some.injEq, Prod.mk.injEq] at h1
        obtain ⟨rfl, rfl⟩ := h1
        have := hold j q _ _ hq hqo (live_of q hqo) h2
        omega
    · rename_i hi
      split at hq
      · rename_i ej
        subst ej
        rw [Sig.upd_same] at h2
        rw [Sig.upd_ne _ _ hi] at h1
        simp only [Option.some.injEq, Prod.mk.injEq] at h2
        obtain ⟨rfl, rfl⟩ := h2
        have := hold i p _ _ hp hpo (live_of p hpo) h1
        omega
      · rename_i hj
        rw [Sig.upd_ne _ _ hi] at h1
        rw [Sig.upd_ne _ _ hj] at h2
        exact h.inj i j p q b κ' κ'' hij hp hq hpo hqo h1 h2
  · intro j p b κ' hp hpo hl hσ
    rw [hgt] at hp
    split at hp
    · simp only [Option.some.injEq] at hp; subst hp; rw [hown] at hpo; cases hpo
    · rename_i hne
      rw [Sig.upd_ne _ _ hne] at hσ
      exact h.ro j p b κ' hp hpo hl hσ
  · intro j hj
    rw [hgt] at hj
    split at hj
    · cases hj
    · rename_i hne
      rw [Sig.upd_ne _ _ hne]
      exact h.fresh j hj

/-- What the seat's own text shows of slices.Collect at a map's keys. -/
def CollectsI (P : Program) (fC fI : FuncId) (tK : TypeId) : Prop :=
  ∀ (w : World) (Bm b : Nat) (D0 : DataW Unit) (nn : Nat), Bm < w.heap.size → w.cell? ⟨Bm, 0, none⟩ = some (.map (some b)) → w.ownsMap P tK (fun _ => some ((.nil : DataW Unit), [])) b nn D0 → Maps.size D0 ≤ 1000000 →
    Calls P fC #[.func (.func fI) #[] #[.pointer (some ⟨Bm, 0, none⟩)]] w fun e w' => ∃ (v : Value) (ss : List Int), e = .returned v ∧ ss.Perm (intKeys D0) ∧ w'.ownsRow w.heap.size tK 1 v ss.length (ss.map encZ) ∧ (v = .slice none 0 0 ↔ ss = []) ∧ Below w.heap.size w w'

def collectsI (fC fI : FuncId) (tK : TypeId) : CallF := fun f l s =>
  match Nat.beq f fC, l with
  | true, [.func (.func g) [] [.ptr id 0]] =>
    match Nat.beq g fI, s.get id with
    | true, some (.cells [.map m] _) =>
      match s.get m with
      | some (.map [] _) => some (.nilsl, s)
      | some (.map [(.int .i64 (.lit k), _, born)] c) =>
        if born < c ∧ -9223372036854775808 ≤ k ∧ k ≤ 9223372036854775807 then
          match s.new (.row [.int .i64 (.lit k)] tK 1) with
          | some (id', s') => some (.sl id' 0 1 (.rest 0), s')
          | none => none
        else none
      | _ => none
    | _, _ => none
  | _, _ => none

theorem collectsI_ok {P : Program} {fC fI : FuncId} {tK : TypeId} (hk : P.underlying tK = some (.int .i64)) (C : CollectsI P fC fI tK) (F : Fix) (B : Nat) (w0 : World) : CallOK F B w0 P (collectsI fC fI tK) := by
  intro f l s v s' he σ w vs hvs hrep
  unfold collectsI at he
  split at he
  · rename_i g id hf
    obtain rfl : f = fC := Nat.eq_of_beq_eq_true hf
    split at he
    · rename_i m e hg hid
      obtain rfl : g = fI := Nat.eq_of_beq_eq_true hg
      simp only [VRs, VR] at hvs
      obtain ⟨y, ys, ⟨a, c, rfl, ⟨q, qs, ⟨bx, κx, hbx, rfl⟩, rfl, rfl⟩, rfl⟩, rfl, rfl⟩ := hvs
      obtain ⟨b1, κ1, h1, h2⟩ := hrep.obj id _ hid
      rw [hbx] at h1
      simp only [Option.some.injEq, Prod.mk.injEq] at h1
      obtain ⟨rfl, rfl⟩ := h1
      obtain ⟨ob, hob, lx, hlx, rfl⟩ := h2 rfl
      simp only [VRs, VR] at hlx
      obtain ⟨y, ys, ⟨bm, κm, hbm, rfl⟩, rfl, rfl⟩ := hlx
      have hcell : w.cell? ⟨bx, 0, none⟩ = some (.map (some bm)) := by simp [World.cell?, hob]
      have hlt : bx < w.heap.size := (Array.getElem?_eq_some_iff.mp hob).1
      split at he
      · rename_i clock hm
        simp only [Option.some.injEq, Prod.mk.injEq] at he
        obtain ⟨rfl, rfl⟩ := he
        obtain ⟨b2, κ2, h1, h2⟩ := hrep.obj m _ hm
        rw [hbm] at h1
        simp only [Option.some.injEq, Prod.mk.injEq] at h1
        obtain ⟨rfl, rfl⟩ := h1
        obtain ⟨ob2, hob2, es, hes, rfl⟩ := h2 rfl
        simp only [ERs] at hes
        subst hes
        have hown : w.ownsMap P tK (fun _ => some ((.nil : DataW Unit), [])) bm 0 (.map []) := ⟨#[], clock, hob2, ⟨by simp, Go.MapKept.stamped_empty clock, by simp⟩, Nat.le_refl _, rfl⟩
        refine (C w bx bm _ 0 hlt hcell hown (by simp [Maps.size])).mono ?_
        rintro e w' ⟨v, ss, rfl, hp, hrow, hnil, hb⟩
        have : ss = [] := by simpa [intKeys] using hp
        exact ⟨σ, v, rfl, by simp only [VR]; exact hnil.2 this, Sig.le_refl _, rep_below hrep hb⟩
      · rename_i k vv born clock hm
        split at he
        · rename_i hc
          obtain ⟨hc1, hc2, hc3⟩ := hc
          split at he
          · rename_i id' s1 hnew
            simp only [Option.some.injEq, Prod.mk.injEq] at he
            obtain ⟨rfl, rfl⟩ := he
            obtain ⟨b2, κ2, h1, h2⟩ := hrep.obj m _ hm
            rw [hbm] at h1
            simp only [Option.some.injEq, Prod.mk.injEq] at h1
            obtain ⟨rfl, rfl⟩ := h1
            obtain ⟨ob2, hob2, es, hes, rfl⟩ := h2 rfl
            simp only [ERs, VR, SI.val] at hes
            obtain ⟨ye, ys, hkey, hval, hborn, rfl, rfl⟩ := hes
            have hwf : (Lit.int .i64 k).wf = true := by simp [Lit.wf, IntKind.min, IntKind.max, IntKind.bits, IntKind.signed]; omega
            have hko : keyOf P tK ye.key = some (.int .i64 k) := by rw [hkey]; simp [keyOf, hk, mapKey, hwf]
            have hrd : rd (H := Unit) P tK (fun _ => some (.nil, [])) ye = some (.int .i64 k, .nil) := by simp [rd, hko]
            have hown : w.ownsMap P tK (fun _ => some ((.nil : DataW Unit), [])) bm 1 (.map [(.int .i64 k, .nil)]) := by
              refine ⟨#[ye], clock, hob2, ⟨by simp [maxLen], ⟨by simp [hborn]; omega, by simp, by simp⟩, ?_⟩, by simp, ?_⟩
              · intro x hx
                simp at hx
                subst hx
                exact ⟨_, hrd⟩
              · simp [rg, hrd, DataW.insert]
            refine (C w bx bm _ 1 hlt hcell hown (by simp [Maps.size])).mono ?_
            rintro e w' ⟨v, ss, rfl, hp, hrow, hnil, hb⟩
            have hss : ss = [k] := by
              have : ss.Perm [k] := by simpa [intKeys, intOf] using hp
              simpa using this
            subst hss
            rcases hrow.2 with ⟨rfl, h0⟩ | ⟨g, cap, cur, rfl, hg, hgb, r1, r2, r3, r4⟩
            · simp at h0
            · obtain ⟨hle, hrep'⟩ := rep_adopt (κ := cap) hrep hb hnew rfl hg hgb ⟨cur, by
                simp only [List.length_cons, List.length_nil] at r4 ⊢
                rw [r4]; simp [VRs, VR, SI.val, encZ], rfl, by omega, r2⟩
              exact ⟨_, _, rfl, by simp only [VR, CapE.val]; exact ⟨_, _, Sig.upd_same _ _ _, by simp⟩, hle, hrep'⟩
          · cases he
        · cases he
      · cases he
    · cases he
  · cases he

/-- Two tables, the first asked first. -/
def orElse (a b : CallF) : CallF := fun f l s => match a f l s with
  | some r => some r
  | none => b f l s
theorem orElse_ok {F : Fix} {B : Nat} {w0 : World} {P : Program} {a b : CallF} (ha : CallOK F B w0 P a) (hb : CallOK F B w0 P b) : CallOK F B w0 P (orElse a b) := by
  intro f l s v s' h
  unfold orElse at h
  split at h
  · rename_i r hr
    simp only [Option.some.injEq] at h
    subst h
    exact ha f l s v s' hr
  · exact hb f l s v s' h
end
end Go.Sx
