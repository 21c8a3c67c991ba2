/- slices.Sorted(maps.Keys(m)) as a line of the evaluator's table: keys that are integers or strings, known one by one. Conditions: the contracts of the seat's own functions. -/
import Derived.Test.YtpjakhjaicegjaaGreatDoorSy15
import Derived.Maps.Own
import Derived.Lib.SmallJoins
import Derived.Lib.SlKeysI
import Derived.Sort.KeysCollected
import Derived.StringKeys
namespace Go.Sy
open Go.RowKit Go.Maps
open Go.WideElems (Fit rd rg)
variable {S : Sg}
noncomputable section

/-- A block that a call has made is taken in. -/
theorem rep_adopt {F : Fix S} {A : Nat → Prop} {w0 w w' : World} {σ : Sig} {s s' : AS} {id g κ : Nat} {o : AObj} {ob : Obj} (h : Rep F A w0 σ w s) (hb : Below w.heap.size w w') (hs : s.new o = some (id, s'))
    (hown : o.own = true) (hg : w.heap.size ≤ g) (hob : w'.heap[g]? = some ob) (hr : OR F (σ.upd id (g, κ)) κ o ob) :
    σ.le (σ.upd id (g, κ)) ∧ Rep F A w0 (σ.upd id (g, κ)) w' s' := by
  obtain ⟨φ, h⟩ := h
  obtain ⟨h0, hgt⟩ := AS.get_new hs
  have hle := Sig.le_upd (g, κ) (h.fresh _ h0)
  have same : ∀ k, k < w.heap.size → heapF w' k = heapF w k := fun k hk => hb.block k hk
  have live_of : ∀ p : AObj, p.own = true → p.live = true := by intro p hp; cases p <;> first | rfl | cases hp
  have hold : ∀ j p x, s.get j = some p → p.own = true → φ j x → x < w.heap.size := by
    intro j p x hp hpo hx
    obtain ⟨b2, κ2, h1, h2, _⟩ := h.obj j p hp
    exact heapF_lt ((h2 (live_of p hpo)).at_foot x hx)
  refine ⟨hle, fun j x => if j = id then x = g else φ j x, h.kept.trans (Kept.of_below (A := fun _ => False) hb) (fun _ e => e.elim), ?_, ?_, ?_, ?_, ?_⟩
  · intro j p hp
    rw [hgt] at hp
    split at hp
    · rename_i e; subst e
      simp only [Option.some.injEq] at hp
      subst hp
      exact ⟨g, κ, Sig.upd_same _ _ _, fun hl => LR.mk hob hr (fun x hx => by simpa using hx) hl, fun _ => by simp⟩
    · rename_i hne
      obtain ⟨b', κ', h1, h2, h3⟩ := h.obj j p hp
      simp only [hne, if_false]
      refine ⟨b', κ', hle _ _ h1, fun hl => ?_, h3⟩
      have hL := (h2 hl).mono hle
      exact hL.same (same _ (heapF_lt hL.at_root)) fun k hk => same k (heapF_lt (hL.at_foot k hk))
  · intro j p hp hpo x hx
    rw [hgt] at hp
    split at hp
    · rename_i e; subst e
      simp only [if_true] at hx
      subst hx
      exact .inr (Nat.le_trans h.kept.size hg)
    · rename_i hne
      simp only [hne, if_false] at hx
      exact h.own j p hp hpo x hx
  · intro i j p q hij hp hq hpo hqo x h1 h2
    rw [hgt] at hp hq
    split at hp
    · rename_i ei
      split at hq
      · rename_i ej; exact hij (ei.trans ej.symm)
      · rename_i hj
        simp only [ei, if_true] at h1
        simp only [hj, if_false] at h2
        have := hold j q x hq hqo h2
        omega
    · rename_i hi
      split at hq
      · rename_i ej
        simp only [ej, if_true] at h2
        simp only [hi, if_false] at h1
        have := hold i p x hp hpo h1
        omega
      · rename_i hj
        simp only [hi, if_false] at h1
        simp only [hj, if_false] at h2
        exact h.inj i j p q hij hp hq hpo hqo x h1 h2
  · intro j p b κ' hp hpo hl hσ
    rw [hgt] at hp
    split at hp
    · simp only [Option.some.injEq] at hp; subst hp; rw [hown] at hpo; cases hpo
    · rename_i hne
      rw [Sig.upd_ne _ _ hne] at hσ
      exact h.ro j p b κ' hp hpo hl hσ
  · intro j hj
    rw [hgt] at hj
    split at hj
    · cases hj
    · rename_i hne
      rw [Sig.upd_ne _ _ hne]
      exact h.fresh j hj

/-- A box that holds one value. -/
theorem Rep.box {F : Fix S} {A : Nat → Prop} {w0 w : World} {σ : Sig} {s : AS} (h : Rep F A w0 σ w s) {id : Nat} {o : AObj} (hid : s.get id = some o) (hpl : o.plain = true) (hl : o.live = true) :
    ∃ b κ ob, σ id = some (b, κ) ∧ w.heap[b]? = some ob ∧ OR F σ κ o ob := by
  obtain ⟨φ, h⟩ := h
  obtain ⟨b, κ, h1, h2, _⟩ := h.obj id o hid
  obtain ⟨⟨ob, h3, h4⟩, _⟩ := (h2 hl).plain hpl
  exact ⟨b, κ, ob, h1, h3, h4⟩
/-- What is asked of a kind of keys. -/
structure KK (α : Type) where
  enc : α → Value
  av : α → AV
  dec : AV → Option α
  lit : α → Lit
  unlit : Lit → α
  ok : α → Bool
  le : α → α → Bool
  beq : α → α → Bool
  und : TypeDesc

structure KK.Good {α : Type} (K : KK α) : Prop where
  dec_ok : ∀ {S : Sg} (F : Fix S) σ a x v, K.dec a = some x → VR F σ a v → v = K.enc x
  av_ok : ∀ {S : Sg} (F : Fix S) σ x, VR F σ (K.av x) (K.enc x)
  key : ∀ (P : Program) t x, P.underlying t = some K.und → K.ok x = true → keyOf P t (K.enc x) = some (K.lit x)
  unlit : ∀ x, K.unlit (K.lit x) = x
  inj : ∀ x y, K.enc x = K.enc y → x = y
  beq : ∀ x y, K.beq x y = false → x ≠ y
  trans : ∀ a b c, K.le a b = true → K.le b c = true → K.le a c = true
  total : ∀ a b, (K.le a b || K.le b a) = true
  anti : ∀ a b, K.le a b = true → K.le b a = true → a = b

section
variable {α : Type} (K : KK α)
def KK.keys (d : DataW Unit) : List α := match d with
  | .map es => es.map fun p => K.unlit p.1
  | _ => []

/-- Keys, each with what the map's form asks. -/
def KK.read (c : Nat) : List (AV × AV × Nat) → Option (List (α × Nat))
  | [] => some []
  | (k, _, b) :: l => match K.dec k, KK.read c l with
    | some x, some r => if (Nat.blt b c && K.ok x && r.all (fun p => !(K.beq x p.1) && !(Nat.beq b p.2))) then some ((x, b) :: r) else none
    | _, _ => none

def KK.ins (x : α) : List α → List α
  | [] => [x]
  | y :: l => bif K.le x y then x :: y :: l else y :: KK.ins x l
def KK.sort : List α → List α
  | [] => []
  | x :: l => K.ins x (KK.sort l)

structure SortsK (P : Program) (fS fI : FuncId) (tK : TypeId) : Prop where
  full : ∀ (w : World) (Bm b : Nat) (D0 : DataW Unit) (nn : Nat), Bm < w.heap.size → w.cell? ⟨Bm, 0, none⟩ = some (.map (some b)) → w.ownsMap P tK (fun _ => some ((.nil : DataW Unit), [])) b nn D0 → Maps.size D0 ≤ 1000000 →
    Calls P fS #[.func (.func fI) #[] #[.pointer (some ⟨Bm, 0, none⟩)]] w fun e w' => ∃ (v : Value) (ss : List α), e = .returned v ∧ ss.Perm (K.keys D0) ∧ w'.ownsRow w.heap.size tK 1 v ss.length ((ss.mergeSort K.le).map K.enc) ∧ (v = .slice none 0 0 ↔ ss = []) ∧ Below w.heap.size w w'
  none : ∀ (w : World) (Bm : Nat), Bm < w.heap.size → w.cell? ⟨Bm, 0, none⟩ = some (.map none) →
    Calls P fS #[.func (.func fI) #[] #[.pointer (some ⟨Bm, 0, none⟩)]] w fun e w' => e = .returned (.slice none 0 0) ∧ Below w.heap.size w w'

def sortsK (fS fI : FuncId) (tK : TypeId) : CallF := fun f l s =>
  match Nat.beq f fS, l with
  | true, [.func (.func g) [] [.ptr id 0]] =>
    match Nat.beq g fI, s.get id with
    | true, some (.cells [.nilmap] _) => some (.nilsl, s)
    | true, some (.cells [.map m] _) =>
      match s.get m with
      | some (.map es c) =>
        match K.read c es with
        | some [] => some (.nilsl, s)
        | some (x :: r) =>
          if Nat.blt r.length 100000 then
            match s.new (.row ((K.sort ((x :: r).map (·.1))).map K.av) tK 1) with
            | some (id', s') => some (.sl id' 0 (r.length + 1) (.rest 0), s')
            | none => none
          else none
        | none => none
      | _ => none
    | _, _ => none
  | _, _ => none

variable {K}
theorem KK.ins_perm (x : α) : ∀ l : List α, (K.ins x l).Perm (x :: l)
  | [] => List.Perm.refl _
  | y :: l => by
    unfold KK.ins
    cases K.le x y with
    | true => exact List.Perm.refl _
    | false => exact ((KK.ins_perm x l).cons y).trans (List.Perm.swap x y l)
theorem KK.sort_perm : ∀ l : List α, (K.sort l).Perm l
  | [] => List.Perm.refl _
  | x :: l => (KK.ins_perm x _).trans ((KK.sort_perm l).cons x)
theorem KK.ins_sorted (G : K.Good) (x : α) : ∀ l : List α, l.Pairwise (fun a b => K.le a b = true) → (K.ins x l).Pairwise (fun a b => K.le a b = true)
  | [], _ => by simp [KK.ins]
  | y :: l, h => by
    have h1 := List.pairwise_cons.mp h
    unfold KK.ins
    cases hle : K.le x y with
    | true =>
      refine List.pairwise_cons.mpr ⟨fun a ha => ?_, h⟩
      rcases List.mem_cons.mp ha with rfl | ha
      · exact hle
      · exact G.trans _ _ _ hle (h1.1 a ha)
    | false =>
      have hyx : K.le y x = true := by have := G.total x y; rw [hle] at this; simpa using this
      refine List.pairwise_cons.mpr ⟨fun a ha => ?_, KK.ins_sorted G x l h1.2⟩
      rcases List.mem_cons.mp ((KK.ins_perm x l).mem_iff.mp ha) with rfl | ha
      · exact hyx
      · exact h1.1 a ha
theorem KK.sort_sorted (G : K.Good) : ∀ l : List α, (K.sort l).Pairwise (fun a b => K.le a b = true)
  | [] => List.Pairwise.nil
  | x :: l => KK.ins_sorted G x _ (KK.sort_sorted G l)
theorem KK.sort_eq (G : K.Good) {l l' : List α} (h : l.Perm l') : l.mergeSort K.le = K.sort l' :=
  List.Perm.eq_of_pairwise (le := fun a b => K.le a b = true) (fun a b _ _ h1 h2 => G.anti a b h1 h2) (List.pairwise_mergeSort G.trans G.total l) (KK.sort_sorted G l')
    ((List.mergeSort_perm l K.le).trans (h.trans (KK.sort_perm l').symm))

theorem KK.read_ok (G : K.Good) {P : Program} {tK : TypeId} (hk : P.underlying tK = some K.und) {F : Fix S} {σ : Sig} {c : Nat} : ∀ {es : List (AV × AV × Nat)} {r : List (α × Nat)} {ms : List MapEntry}, K.read c es = some r → ERs F σ es ms →
    ms.map (fun e => (e.key, e.born)) = r.map (fun p => (K.enc p.1, p.2)) ∧ (∀ p ∈ r, p.2 < c ∧ K.ok p.1 = true) ∧ r.Pairwise (fun p q => p.1 ≠ q.1 ∧ p.2 ≠ q.2)
  | [], r, ms, h, he => by
    simp only [KK.read, Option.some.injEq] at h
    simp only [ERs] at he
    subst h he
    simp
  | (k, v, b) :: es, r, ms, h, he => by
    unfold KK.read at h
    split at h
    · rename_i x r' hx hr'
      split at h
      · rename_i hc
        simp only [Option.some.injEq] at h
        subst h
        simp only [ERs] at he
        obtain ⟨y, ys, h1, h2, h3, h4, rfl⟩ := he
        obtain ⟨i1, i2, i3⟩ := KK.read_ok G hk hr' h4
        simp only [Bool.and_eq_true, List.all_eq_true, Bool.not_eq_true'] at hc
        obtain ⟨⟨hb, hok⟩, hall⟩ := hc
        refine ⟨?_, ?_, ?_⟩
        · simp only [List.map_cons, i1, h3, G.dec_ok F σ k x _ hx h1]
        · intro p hp
          rcases List.mem_cons.mp hp with rfl | hp
          · exact ⟨Nat.blt_eq.mp hb, hok⟩
          · exact i2 p hp
        · refine List.pairwise_cons.mpr ⟨fun p hp => ?_, i3⟩
          obtain ⟨g1, g2⟩ := hall p hp
          exact ⟨G.beq _ _ g1, fun e => by
            have e' : b = p.2 := e
            rw [e', Nat.beq_refl] at g2; cases g2⟩
      · cases h
    · cases h

theorem KK.owns' (G : K.Good) {P : Program} {tK : TypeId} (hk : P.underlying tK = some K.und) {c b : Nat} {r : List (α × Nat)} {ms : List MapEntry} {w : World}
    (h1 : ms.map (fun e => (e.key, e.born)) = r.map (fun p => (K.enc p.1, p.2))) (h2 : ∀ p ∈ r, p.2 < c ∧ K.ok p.1 = true) (h3 : r.Pairwise (fun p q => p.1 ≠ q.1 ∧ p.2 ≠ q.2)) (hb : w.heap[b]? = some (.map ms.toArray c)) (hlen : r.length ≤ 1000000) :
    ∃ D0 : DataW Unit, w.ownsMap P tK (fun _ => some ((.nil : DataW Unit), [])) b r.length D0 ∧ Maps.size D0 ≤ 1000000 ∧ (K.keys D0).Perm (r.map (·.1)) := by
  have hml : ms.length = r.length := by have := congrArg List.length h1; simpa using this
  have hread : ∀ x ∈ ms, ∃ p ∈ r, x.key = K.enc p.1 ∧ x.born = p.2 := by
    intro x hx
    have : (x.key, x.born) ∈ r.map (fun p => (K.enc p.1, p.2)) := by rw [← h1]; exact List.mem_map.mpr ⟨x, hx, rfl⟩
    obtain ⟨p, hp, e⟩ := List.mem_map.mp this
    simp only [Prod.mk.injEq] at e
    exact ⟨p, hp, e.1.symm, e.2.symm⟩
  have hrd : ∀ x ∈ ms, ∀ p ∈ r, x.key = K.enc p.1 → rd (H := Unit) P tK (fun _ => some (.nil, [])) x = some (K.lit p.1, .nil) := by
    intro x hx p hp hkx
    simp [rd, hkx, G.key P tK p.1 hk (h2 p hp).2]
  have hpw : ms.Pairwise (fun x y => x.key ≠ y.key ∧ x.born ≠ y.born) := by
    have : (ms.map (fun e => (e.key, e.born))).Pairwise (fun p q => p.1 ≠ q.1 ∧ p.2 ≠ q.2) := by
      rw [h1, List.pairwise_map]
      exact h3.imp (fun {p q} hpq => ⟨fun e => hpq.1 (G.inj _ _ e), hpq.2⟩)
    rw [List.pairwise_map] at this
    exact this
  refine ⟨_, ⟨ms.toArray, c, hb, ⟨by simp [hml, maxLen]; omega, ?_, ?_⟩, by simp [hml], rfl⟩, ?_, ?_⟩
  · rw [Go.MapKept.stamped_iff]
    refine ⟨?_, ?_, ?_⟩
    · intro x hx
      obtain ⟨p, hp, _, e⟩ := hread x (by simpa using hx)
      rw [e]; exact (h2 p hp).1
    · simp only [List.Nodup, List.pairwise_map]
      exact hpw.imp (fun h => h.2)
    · exact hpw.imp (fun h => h.1)
  · intro x hx
    obtain ⟨p, hp, e, _⟩ := hread x (by simpa using hx)
    exact ⟨_, hrd x (by simpa using hx) p hp e⟩
  · have := (Go.WideShapes.sorted_perm (ms.map (rg (H := Unit) P tK (fun _ => some (.nil, []))))).length_eq
    simp [Maps.size, this, hml]; omega
  · have hp := (Go.WideShapes.sorted_perm (ms.map (rg (H := Unit) P tK (fun _ => some (.nil, []))))).map (fun p => K.unlit p.1)
    simp only [KK.keys]
    refine hp.trans ?_
    have : (ms.map (rg (H := Unit) P tK (fun _ => some (.nil, [])))).map (fun p => K.unlit p.1) = r.map (·.1) := by
      have e1 : ∀ x ∈ ms, ∀ p ∈ r, x.key = K.enc p.1 → K.unlit (rg (H := Unit) P tK (fun _ => some (.nil, [])) x).1 = p.1 := by
        intro x hx p hp hkx
        simp [rg, hrd x hx p hp hkx, G.unlit]
      clear hp hpw hb hrd h2 h3 hread hlen hml
      revert h1 e1
      generalize r = r'
      intro h1 e1
      induction ms generalizing r' with
      | nil => cases r' with
        | nil => rfl
        | cons _ _ => simp at h1
      | cons m ms ih =>
        cases r' with
        | nil => simp at h1
        | cons p r' =>
          simp only [List.map_cons, List.cons.injEq, Prod.mk.injEq] at h1
          simp only [List.map_cons]
          rw [e1 m (List.mem_cons_self) p (List.mem_cons_self) h1.1.1]
          congr 1
          exact ih r' h1.2 (fun x hx q hq => e1 x (List.mem_cons_of_mem _ hx) q (List.mem_cons_of_mem _ hq))
    exact List.Perm.of_eq this

theorem KK.owns (G : K.Good) {P : Program} {tK : TypeId} (hk : P.underlying tK = some K.und) {F : Fix S} {σ : Sig} {c b : Nat} {es : List (AV × AV × Nat)} {r : List (α × Nat)} {ms : List MapEntry} {w : World}
    (h : K.read c es = some r) (he : ERs F σ es ms) (hb : w.heap[b]? = some (.map ms.toArray c)) (hlen : r.length ≤ 1000000) :
    ∃ D0 : DataW Unit, w.ownsMap P tK (fun _ => some ((.nil : DataW Unit), [])) b r.length D0 ∧ Maps.size D0 ≤ 1000000 ∧ (K.keys D0).Perm (r.map (·.1)) := by
  obtain ⟨h1, h2, h3⟩ := KK.read_ok G hk h he
  exact KK.owns' G hk h1 h2 h3 hb hlen

theorem VRs.encs (G : K.Good) (F : Fix S) (σ : Sig) : ∀ l : List α, VRs F σ (l.map K.av) (l.map K.enc)
  | [] => by simp [VRs]
  | x :: l => by simp only [List.map_cons, VRs]; exact ⟨_, _, G.av_ok F σ x, VRs.encs G F σ l, rfl⟩

theorem sortsK_ok (G : K.Good) {P : Program} {fS fI : FuncId} {tK : TypeId} (hk : P.underlying tK = some K.und) (C : SortsK K P fS fI tK) (F : Fix S) (A : Nat → Prop) (w0 : World) : CallOK F A w0 P (sortsK K fS fI tK) := by
  intro f l s v s' he σ w vs hvs hrep
  unfold sortsK at he
  split at he
  · rename_i g id hf
    obtain rfl : f = fS := Nat.eq_of_beq_eq_true hf
    have box : ∀ x e, s.get id = some (.cells [x] e) → ∃ bx y, vs = [.func (.func g) #[] #[.pointer (some ⟨bx, 0, none⟩)]] ∧ VR F σ x y ∧ w.cell? ⟨bx, 0, none⟩ = some y ∧ bx < w.heap.size := by
      intro x e hid
      simp only [VRs, VR] at hvs
      obtain ⟨y, ys, ⟨a, c, rfl, ⟨q, qs, ⟨bx, κx, hbx, rfl⟩, rfl, rfl⟩, rfl⟩, rfl, rfl⟩ := hvs
      obtain ⟨b1, κ1, ob, h1, hob, lx, hlx, rfl⟩ := hrep.box hid rfl rfl
      rw [hbx] at h1
      simp only [Option.some.injEq, Prod.mk.injEq] at h1
      obtain ⟨rfl, rfl⟩ := h1
      simp only [VRs] at hlx
      obtain ⟨y, ys, hy, rfl, rfl⟩ := hlx
      exact ⟨bx, y, rfl, hy, by simp [World.cell?, hob], (Array.getElem?_eq_some_iff.mp hob).1⟩
    split at he
    · rename_i e hg hid
      obtain rfl : g = fI := Nat.eq_of_beq_eq_true hg
      simp only [Option.some.injEq, Prod.mk.injEq] at he
      obtain ⟨rfl, rfl⟩ := he
      obtain ⟨bx, y, rfl, hy, hcell, hlt⟩ := box _ _ hid
      simp only [VR] at hy
      subst hy
      refine (C.none w bx hlt hcell).mono ?_
      rintro e w' ⟨rfl, hb⟩
      exact ⟨σ, _, rfl, by simp only [VR], Sig.le_refl _, rep_below hrep hb⟩
    · rename_i m e hg hid
      obtain rfl : g = fI := Nat.eq_of_beq_eq_true hg
      obtain ⟨bx, y, rfl, hy, hcell, hlt⟩ := box _ _ hid
      simp only [VR] at hy
      obtain ⟨bm, κm, hbm, rfl⟩ := hy
      split at he
      · rename_i es clock hm
        obtain ⟨b2, κ2, ob2, h1, hob2, ms, hms, rfl⟩ := hrep.box hm rfl rfl
        rw [hbm] at h1
        simp only [Option.some.injEq, Prod.mk.injEq] at h1
        obtain ⟨rfl, rfl⟩ := h1
        split at he
        · rename_i hr
          simp only [Option.some.injEq, Prod.mk.injEq] at he
          obtain ⟨rfl, rfl⟩ := he
          obtain ⟨D0, hown, hsz, hkeys⟩ := KK.owns G hk hr hms hob2 (by simp)
          refine (C.full w bx bm D0 _ hlt hcell hown hsz).mono ?_
          rintro e w' ⟨v, ss, rfl, hp, hrow, hnil, hb⟩
          have : ss = [] := by simpa using hp.trans hkeys
          exact ⟨σ, v, rfl, by simp only [VR]; exact hnil.2 this, Sig.le_refl _, rep_below hrep hb⟩
        · rename_i x r hr
          split at he
          · rename_i hlen
            have hlen' := Nat.blt_eq.mp hlen
            split at he
            · rename_i id' s1 hnew
              simp only [Option.some.injEq, Prod.mk.injEq] at he
              obtain ⟨rfl, rfl⟩ := he
              obtain ⟨D0, hown, hsz, hkeys⟩ := KK.owns G hk hr hms hob2 (by simp; omega)
              refine (C.full w bx bm D0 _ hlt hcell hown hsz).mono ?_
              rintro e w' ⟨v, ss, rfl, hp, hrow, hnil, hb⟩
              have hperm := hp.trans hkeys
              have hsl : ss.length = r.length + 1 := by have := hperm.length_eq; simpa using this
              have hsort := KK.sort_eq G hperm
              rw [hsort] at hrow
              rcases hrow.2 with ⟨rfl, h0⟩ | ⟨g', cap, cur, rfl, hg', hgb, r1, r2, r3, r4⟩
              · omega
              · have hsl2 : (K.sort (((x :: r).map (·.1)))).length = r.length + 1 := by have := (KK.sort_perm (K := K) ((x :: r).map (·.1))).length_eq; simpa using this
                obtain ⟨hle, hrep'⟩ := rep_adopt (κ := cap) hrep hb hnew rfl hg' hgb ⟨cur, by
                  rw [List.length_map, hsl2]
                  rw [Nat.mul_one, hsl] at r4
                  rw [r4]
                  exact VRs.encs G F _ _, rfl, r3, r2⟩
                refine ⟨_, _, rfl, ?_, hle, hrep'⟩
                simp only [VR, CapE.val]
                exact ⟨_, _, Sig.upd_same _ _ _, by simp [hsl]⟩
            · cases he
          · cases he
        · cases he
      · cases he
    · cases he
  · cases he
end

/-- Keys that are ints. -/
def kInt : KK Int where
  enc := encZ
  av := fun n => .int .i64 (.lit n)
  dec := fun a => match a with | .int .i64 (.lit n) => some n | _ => none
  lit := .int .i64
  unlit := intOf
  ok := fun n => decide (-9223372036854775808 ≤ n) && decide (n ≤ 9223372036854775807)
  le := leI
  beq := fun a b => decide (a = b)
  und := .int .i64
theorem kInt_good : kInt.Good where
  dec_ok := by
    intro S F σ a x v h hv
    simp only [kInt] at h
    split at h
    · simp only [Option.some.injEq] at h; subst h; simpa [VR, Tm.val, kInt] using hv
    · cases h
  av_ok := by intro S F σ x; simp [kInt, VR, Tm.val]
  key := by
    intro P t x hk hok
    simp only [kInt, Bool.and_eq_true, decide_eq_true_eq] at hok hk
    have hwf : (Lit.int .i64 x).wf = true := by simp [Lit.wf, IntKind.min, IntKind.max, IntKind.bits, IntKind.signed]; omega
    simp [kInt, keyOf, hk, mapKey, hwf]
  unlit := by intro x; rfl
  inj := by intro x y h; exact encZ_inj h
  beq := by intro x y h; simpa [kInt] using h
  trans := by intro a b c h1 h2; simp only [kInt, leI, decide_eq_true_eq] at *; omega
  total := by intro a b; simp only [kInt, leI, Bool.or_eq_true, decide_eq_true_eq]; omega
  anti := by intro a b h1 h2; simp only [kInt, leI, decide_eq_true_eq] at *; omega

/-- Keys that are uint64s. -/
def kU64 : KK Int where
  enc := fun n => .int .u64 n
  av := fun n => .int .u64 (.lit n)
  dec := fun a => match a with | .int .u64 (.lit n) => some n | _ => none
  lit := .int .u64
  unlit := intOf
  ok := fun n => decide (0 ≤ n) && decide (n ≤ 18446744073709551615)
  le := leI
  beq := fun a b => decide (a = b)
  und := .int .u64
theorem kU64_good : kU64.Good where
  dec_ok := by
    intro S F σ a x v h hv
    simp only [kU64] at h
    split at h
    · simp only [Option.some.injEq] at h; subst h; simpa [VR, Tm.val, kU64] using hv
    · cases h
  av_ok := by intro S F σ x; simp [kU64, VR, Tm.val]
  key := by
    intro P t x hk hok
    simp only [kU64, Bool.and_eq_true, decide_eq_true_eq] at hok hk
    have hwf : (Lit.int .u64 x).wf = true := by simp [Lit.wf, IntKind.min, IntKind.max, IntKind.bits, IntKind.signed]; omega
    simp [kU64, keyOf, hk, mapKey, hwf]
  unlit := by intro x; rfl
  inj := by intro x y h; simpa [kU64] using h
  beq := by intro x y h; simpa [kU64] using h
  trans := by intro a b c h1 h2; simp only [kU64, leI, decide_eq_true_eq] at *; omega
  total := by intro a b; simp only [kU64, leI, Bool.or_eq_true, decide_eq_true_eq]; omega
  anti := by intro a b h1 h2; simp only [kU64, leI, decide_eq_true_eq] at *; omega

/-- Bytes, lexically. -/
def bleS : List UInt8 → List UInt8 → Bool
  | [], _ => true
  | _ :: _, [] => false
  | a :: l, b :: m => bif Nat.blt a.toNat b.toNat then true else bif Nat.beq a.toNat b.toNat then bleS l m else false
theorem bleS_eq : ∀ x y : List UInt8, bleS x y = leB x y
  | [], y => by simp [bleS, leB]
  | a :: l, [] => by simp [bleS, leB]
  | a :: l, b :: m => by
    have ih := bleS_eq l m
    unfold bleS
    have hb : Nat.beq a.toNat b.toNat = decide (a = b) := by
      rw [Bool.eq_iff_iff, Nat.beq_eq]; simp [UInt8.toNat_inj]
    have hlt : Nat.blt a.toNat b.toNat = decide (a < b) := by
      rw [Bool.eq_iff_iff, Nat.blt_eq]; simp [UInt8.lt_iff_toNat_lt]
    rw [hb, hlt, ih]
    simp only [leB, List.cons_le_cons_iff, Bool.decide_or, Bool.decide_and]
    by_cases h1 : a < b <;> by_cases h2 : a = b <;> simp [h1, h2]

/-- Keys that are strings. -/
def kStr : KK (List UInt8) where
  enc := Go.Proofs.encStr
  av := .str
  dec := fun a => match a with | .str l => some l | _ => none
  lit := .string
  unlit := strOf
  ok := fun l => Nat.ble l.length 1000000
  le := bleS
  beq := fun a b => a == b
  und := .string
theorem kStr_good : kStr.Good where
  dec_ok := by
    intro S F σ a x v h hv
    simp only [kStr] at h
    split at h
    · simp only [Option.some.injEq] at h; subst h; simpa [VR, kStr, Go.Proofs.encStr, bytesOf] using hv
    · cases h
  av_ok := by intro S F σ x; simp [kStr, VR, Go.Proofs.encStr, bytesOf]
  key := by
    intro P t x hk hok
    simp only [kStr] at hok hk
    have := Nat.le_of_ble_eq_true hok
    have h2 := Go.WideMaps.keyOf_string_mk (P := P) (k := t) hk (s := ⟨x.toArray⟩) (by simp [ByteArray.size, maxLen]; omega)
    simpa [kStr, Go.Proofs.encStr] using h2
  unlit := by intro x; rfl
  inj := by intro x y h; simpa [kStr, Go.Proofs.encStr] using h
  beq := by intro x y h; simpa [kStr] using h
  trans := by intro a b c h1 h2; simp only [kStr, bleS_eq, leB, decide_eq_true_eq] at *; exact List.le_trans h1 h2
  total := by intro a b; simp only [kStr, bleS_eq, leB, Bool.or_eq_true, decide_eq_true_eq]; exact List.le_total a b
  anti := by intro a b h1 h2; simp only [kStr, bleS_eq, leB, decide_eq_true_eq] at *; exact List.le_antisymm h1 h2
/-- No names, no heap predicates. -/
def Sg.bare : Sg where
  U := Unit
  fn := fun _ _ => .none
  ck := fun _ _ _ _ _ _ => False
  local_ := fun h => h.elim
  root := fun h => h.elim
  here := fun h => h.elim
def noFix : Fix Sg.bare := fun _ => .none
def tellsUnit (r : Option (AV × AS)) : Bool := match r with
  | some (.tup [], _) => true
  | _ => false
/-- A call that the evaluator says hands back nothing. -/
theorem said_unit {P : Program} {n d : Nat} {g : FuncId} {l : List AV} (h : tellsUnit (evCall P Facts.none n (fun _ _ _ => none) (fun _ _ _ _ => none) d g l ⟨.nil, 0⟩) = true) (w : World) (vs : List Value) (hvs : VRs (noFix)  (fun _ => none) l vs) :
    Calls P g vs.toArray w fun e w' => e = .returned (.tuple #[]) ∧ Below w.heap.size w w' := by
  obtain ⟨s, hs⟩ : ∃ s, evCall P Facts.none n (fun _ _ _ => none) (fun _ _ _ _ => none) d g l ⟨.nil, 0⟩ = some (.tup [], s) := by
    unfold tellsUnit at h
    split at h
    · rename_i s hr; exact ⟨s, hr⟩
    · cases h
  refine (evCall_ok (facts_none _) (noLoops _ _ _ _) (none_ok _ (fun _ => False) w _) d g l _ _ _ hs _ w vs hvs (rep_start _ _ w 0)).mono ?_
  rintro e w' ⟨σ', rv, rfl, hv, _, hrep⟩
  simp only [VR, VRs] at hv
  obtain ⟨_, rfl, rfl⟩ := hv
  exact ⟨rfl, hrep.kept.below⟩
theorem kStr_keys (d : DataW Unit) : kStr.keys d = strKeys d := by cases d <;> rfl
theorem kInt_keys (d : DataW Unit) : kInt.keys d = intKeys d := by cases d <;> rfl
theorem kStr_le : (fun x y : List UInt8 => decide (x ≤ y)) = kStr.le := by funext x y; exact (bleS_eq x y).symm
theorem kInt_le : (fun x y : Int => decide (x ≤ y)) = kInt.le := rfl
end
end Go.Sy
