/- The abstract memory and the model's: how they stand to each other, and that each way of making, changing or handing on a block keeps it. Conditions: none. -/
import Derived.Test.YtmmigmalblephaaGreatDoorEv0
namespace Go.Sx
open Go.RowKit

structure AS where
  h : Tr AObj
  next : Nat

noncomputable def AS.get (s : AS) (id : Nat) : Option AObj := Tr.get 24 s.h id
noncomputable def AS.put (s : AS) (id : Nat) (o : AObj) : Option AS := @Bool.rec (fun _ => Option AS) none (some ⟨Tr.set o 24 s.h id, s.next⟩) (Nat.blt id 16777215)
noncomputable def AS.newAt (s : AS) (o : AObj) (n : Nat) : Option (Nat × AS) := @Bool.rec (fun _ => Option (Nat × AS)) none (some (n, ⟨Tr.set o 24 s.h n, Nat.succ n⟩)) (Nat.blt n 16777215)
noncomputable def AS.new (s : AS) (o : AObj) : Option (Nat × AS) :=
  match s.get s.next with
  | some _ => none
  | none => @Nat.rec (fun _ => Option (Nat × AS)) (s.newAt o 0) (fun m _ => s.newAt o (m + 1)) s.next

theorem AS.get_put {s s' : AS} {id : Nat} {o : AObj} (h : s.put id o = some s') (j : Nat) : s'.get j = if j = id then some o else s.get j := by
  unfold AS.put at h
  cases hb : Nat.blt id 16777215 with
  | false => rw [hb] at h; cases h
  | true =>
    rw [hb] at h
    have hlt := Nat.blt_eq.mp hb
    have h' : some (⟨Tr.set o 24 s.h id, s.next⟩ : AS) = some s' := h
    simp only [Option.some.injEq] at h'
    subst h'
    exact Tr.get_set o 24 s.h id (by omega) j

theorem AS.get_new {s s' : AS} {id : Nat} {o : AObj} (h : s.new o = some (id, s')) : s.get id = none ∧ ∀ j, s'.get j = if j = id then some o else s.get j := by
  unfold AS.new at h
  split at h
  · cases h
  · rename_i h0
    have h1 : AS.newAt s o s.next = some (id, s') := by
      cases hn : s.next with
      | zero => rw [hn] at h; exact h
      | succ m => rw [hn] at h; exact h
    unfold AS.newAt at h1
    cases hb : Nat.blt s.next 16777215 with
    | false => rw [hb] at h1; cases h1
    | true =>
      rw [hb] at h1
      have hlt := Nat.blt_eq.mp hb
      have h' : some (s.next, (⟨Tr.set o 24 s.h s.next, Nat.succ s.next⟩ : AS)) = some (id, s') := h1
      simp only [Option.some.injEq, Prod.mk.injEq] at h'
      obtain ⟨rfl, rfl⟩ := h'
      exact ⟨h0, fun j => Tr.get_set o 24 s.h s.next (by omega) j⟩

def AObj.own : AObj → Bool
  | .rdata _ | .dead => false
  | _ => true
def AObj.live : AObj → Bool
  | .dead => false
  | _ => true

def byteV (b : UInt8) : Value := .int .u8 b.toNat

section
variable (F : Fix)
def ERs (σ : Sig) : List (AV × AV × Nat) → List MapEntry → Prop
  | [], l => l = []
  | (k, v, n) :: xs, l => ∃ y ys, VR F σ k y.key ∧ VR F σ v y.val ∧ y.born = n ∧ ERs σ xs ys ∧ l = y :: ys

def IR (σ : Sig) : Option Nat → Option Nat → Prop
  | none, m => m = none
  | some id, m => ∃ b κ, σ id = some (b, κ) ∧ m = some b

def OR (σ : Sig) (κ : Nat) : AObj → Obj → Prop
  | .cells vs e, ob => ∃ l, VRs F σ vs l ∧ ob = .cells l.toArray e (0, 0)
  | .row vs e sz, ob => ∃ arr, VRs F σ vs (arr.toList.take vs.length) ∧ ob = .cells arr e (0, 0) ∧ arr.size = κ * sz ∧ κ ≤ maxLen
  | .data d e off, ob => ∃ arr, (arr.toList.drop off).take (F.δ d).length = (F.δ d).map byteV ∧ ob = .cells arr e (0, 0) ∧ arr.size = κ ∧ κ ≤ maxLen ∧ off = 0
  | .rdata d, ob => ∃ arr e fr, (arr.toList.drop κ).take (F.δ d).length = (F.δ d).map byteV ∧ ob = .cells arr e fr
  | .fro vs e, ob => ∃ arr fr, VRs F σ vs (arr.toList.take vs.length) ∧ ob = .cells arr e fr
  | .map es c, ob => ∃ l, ERs F σ es l ∧ ob = .map l.toArray c
  | .striter s p, ob => ob = .stringIter (bytesOf s) p
  | .mapiter m since seen st, ob => ∃ mb, IR σ m mb ∧ ob = .mapIter mb since seen.toArray st
  | .dead, _ => True

variable {F}
theorem ERs.mono {σ τ : Sig} (h : σ.le τ) : ∀ {a : List (AV × AV × Nat)} {l : List MapEntry}, ERs F σ a l → ERs F τ a l
  | [], _, e => by simpa only [ERs] using e
  | (k, v, n) :: xs, _, e => by
    simp only [ERs] at e ⊢
    obtain ⟨y, ys, h1, h2, h3, h4, rfl⟩ := e
    exact ⟨y, ys, h1.mono h, h2.mono h, h3, ERs.mono h h4, rfl⟩

theorem OR.mono {σ τ : Sig} (h : σ.le τ) {κ : Nat} {o : AObj} {ob : Obj} (e : OR F σ κ o ob) : OR F τ κ o ob := by
  cases o with
  | cells vs t => obtain ⟨l, h1, h2⟩ := e; exact ⟨l, h1.mono h, h2⟩
  | row vs t sz => obtain ⟨l, h1, h2⟩ := e; exact ⟨l, h1.mono h, h2⟩
  | data d t off => exact e
  | rdata d => exact e
  | fro vs t => obtain ⟨arr, fr, h1, h2⟩ := e; exact ⟨arr, fr, h1.mono h, h2⟩
  | map es c => obtain ⟨l, h1, h2⟩ := e; exact ⟨l, h1.mono h, h2⟩
  | striter s p => exact e
  | mapiter m since seen st =>
    obtain ⟨mb, h1, h2⟩ := e
    refine ⟨mb, ?_, h2⟩
    cases m with
    | none => exact h1
    | some id => obtain ⟨b, κ', hb, hm⟩ := h1; exact ⟨b, κ', h _ _ hb, hm⟩
  | dead => trivial
end

structure Rep (F : Fix) (B : Nat) (w0 : World) (σ : Sig) (w : World) (s : AS) : Prop where
  below : Below B w0 w
  size : B ≤ w.heap.size
  obj : ∀ id o, s.get id = some o → ∃ b κ, σ id = some (b, κ) ∧ (o.live = true → ∃ ob, w.heap[b]? = some ob ∧ OR F σ κ o ob)
  own : ∀ id o b κ, s.get id = some o → o.own = true → σ id = some (b, κ) → B ≤ b
  inj : ∀ i j o p b κ κ', i ≠ j → s.get i = some o → s.get j = some p → o.own = true → p.own = true → σ i = some (b, κ) → σ j = some (b, κ') → False
  ro : ∀ id o b κ, s.get id = some o → o.own = false → o.live = true → σ id = some (b, κ) → b < B
  fresh : ∀ id, s.get id = none → σ id = none

def Sig.upd (σ : Sig) (id : Nat) (x : Nat × Nat) : Sig := fun j => if j = id then some x else σ j
theorem Sig.le_upd {σ : Sig} {id : Nat} (x : Nat × Nat) (h : σ id = none) : σ.le (σ.upd id x) := by
  intro j y hj
  unfold Sig.upd
  split
  · rename_i e; subst e; rw [h] at hj; cases hj
  · exact hj
theorem Sig.upd_same (σ : Sig) (id : Nat) (x : Nat × Nat) : σ.upd id x id = some x := by simp [Sig.upd]
theorem Sig.upd_ne (σ : Sig) {id j : Nat} (x : Nat × Nat) (h : j ≠ id) : σ.upd id x j = σ j := by simp [Sig.upd, h]

/-- One block has changed, nothing else. -/
structure Upd (w w' : World) (b : Nat) (ob : Obj) : Prop where
  os : w'.os = w.os
  tape : w'.tape = w.tape
  output : w'.output = w.output
  size : w'.heap.size = w.heap.size
  here : w'.heap[b]? = some ob
  other : ∀ k, k ≠ b → w'.heap[k]? = w.heap[k]?

theorem Upd.setRow {w : World} {b : Nat} {old cs : Array Value} {t : TypeId} {fr : Nat × Nat} (h : w.heap[b]? = some (.cells old t fr)) : Upd w (w.setRow b cs) b (.cells cs t fr) :=
  ⟨rfl, rfl, rfl, size_setRow w b cs, setRow_heap w b old cs t fr h, fun k hk => by
    simp only [World.setRow, Array.getElem?_modify]
    rw [if_neg (fun e => hk e.symm)]⟩

theorem Upd.setObj {w : World} {b : Nat} {old ob : Obj} (h : w.heap[b]? = some old) : Upd w { w with heap := w.heap.setIfInBounds b ob } b ob :=
  ⟨rfl, rfl, rfl, by simp, by
    have hlt : b < w.heap.size := (Array.getElem?_eq_some_iff.1 h).1
    simp [hlt], fun k hk => by
    simp [Ne.symm hk]⟩

section
variable {F : Fix} {B : Nat} {w0 : World} {σ : Sig} {w : World} {s : AS}

theorem Rep.congr {w' : World} (h : Rep F B w0 σ w s) (h1 : w'.os = w.os) (h2 : w'.tape = w.tape) (h3 : w'.output = w.output) (h4 : w'.heap = w.heap) : Rep F B w0 σ w' s :=
  ⟨⟨h1.trans h.below.os, h2.trans h.below.tape, h3.trans h.below.output, by rw [h4]; exact h.below.size, fun k hk => by rw [h4]; exact h.below.block k hk⟩,
   by rw [h4]; exact h.size, fun id o hg => by
    obtain ⟨b, κ, hb, hl⟩ := h.obj id o hg
    exact ⟨b, κ, hb, fun hv => by rw [h4]; exact hl hv⟩, h.own, h.inj, h.ro, h.fresh⟩

theorem Rep.drew (h : Rep F B w0 σ w s) : Rep F B w0 σ w.drew s := h.congr rfl rfl rfl rfl

theorem Rep.new {o : AObj} {id : Nat} {s' : AS} (h : Rep F B w0 σ w s) (hn : s.new o = some (id, s')) (ho : o.own = true) {κ : Nat} {ob : Obj}
    (hr : OR F (σ.upd id (w.heap.size, κ)) κ o ob) : σ.le (σ.upd id (w.heap.size, κ)) ∧ Rep F B w0 (σ.upd id (w.heap.size, κ)) (w.alloc ob) s' := by
  obtain ⟨h0, hg⟩ := AS.get_new hn
  have hle := Sig.le_upd (w.heap.size, κ) (h.fresh _ h0)
  have hold : ∀ j x, s.get j = some x → j ≠ id := fun j x hj e => by rw [e, h0] at hj; cases hj
  refine ⟨hle, ⟨h.below.alloc h.size ob, by rw [World.size_alloc]; have := h.size; omega, ?_, ?_, ?_, ?_, ?_⟩⟩
  · intro j x hj
    rw [hg] at hj
    split at hj
    · rename_i e
      simp only [Option.some.injEq] at hj
      subst hj e
      exact ⟨_, _, Sig.upd_same _ _ _, fun _ => ⟨ob, heap_alloc_new w ob, hr⟩⟩
    · obtain ⟨b, κ', hb, hv⟩ := h.obj j x hj
      refine ⟨b, κ', hle _ _ hb, fun hx => ?_⟩
      obtain ⟨ob', hob, hor⟩ := hv hx
      exact ⟨ob', by rw [Below.heap_alloc w ob b (Array.getElem?_eq_some_iff.1 hob).1]; exact hob, hor.mono hle⟩
  · intro j x b κ' hj hx hb
    rw [hg] at hj
    split at hj
    · rename_i e
      subst e
      rw [Sig.upd_same] at hb
      simp only [Option.some.injEq, Prod.mk.injEq] at hb
      rw [← hb.1]; exact h.size
    · rename_i e
      rw [Sig.upd_ne _ _ e] at hb
      exact h.own j x b κ' hj hx hb
  · intro i j x y b κ1 κ2 hij hi hj hx hy h1 h2
    have lt : ∀ k z c κ3, s.get k = some z → z.own = true → σ k = some (c, κ3) → c < w.heap.size := by
      intro k z c κ3 hk hz hc
      obtain ⟨c', κ4, hc', hv⟩ := h.obj k z hk
      rw [hc] at hc'
      simp only [Option.some.injEq, Prod.mk.injEq] at hc'
      obtain ⟨ob', hob, _⟩ := hv (by cases z <;> first | rfl | cases hz)
      rw [hc'.1]; exact (Array.getElem?_eq_some_iff.1 hob).1
    rw [hg] at hi hj
    split at hi
    · rename_i e
      subst e
      rw [if_neg (Ne.symm hij)] at hj
      rw [Sig.upd_same] at h1
      rw [Sig.upd_ne _ _ (Ne.symm hij)] at h2
      simp only [Option.some.injEq, Prod.mk.injEq] at h1
      have := lt j y b κ2 hj hy h2
      omega
    · rename_i e
      rw [Sig.upd_ne _ _ e] at h1
      split at hj
      · rename_i e2
        subst e2
        rw [Sig.upd_same] at h2
        simp only [Option.some.injEq, Prod.mk.injEq] at h2
        have := lt i x b κ1 hi hx h1
        omega
      · rename_i e2
        rw [Sig.upd_ne _ _ e2] at h2
        exact h.inj i j x y b κ1 κ2 hij hi hj hx hy h1 h2
  · intro j x b κ' hj hx hx2 hb
    rw [hg] at hj
    split at hj
    · simp only [Option.some.injEq] at hj; subst hj; rw [ho] at hx; cases hx
    · rename_i e
      rw [Sig.upd_ne _ _ e] at hb
      exact h.ro j x b κ' hj hx hx2 hb
  · intro j hj
    rw [hg] at hj
    split at hj
    · cases hj
    · rename_i e
      rw [Sig.upd_ne _ _ e]
      exact h.fresh j hj

theorem Rep.put {o o' : AObj} {id : Nat} {s' : AS} {b κ : Nat} (h : Rep F B w0 σ w s) (hg : s.get id = some o) (ho : o.own = true) (hp : s.put id o' = some s') (ho' : o'.own = true)
    (hσ : σ id = some (b, κ)) {w' : World} {ob : Obj} (hu : Upd w w' b ob) (hr : OR F σ κ o' ob) : Rep F B w0 σ w' s' := by
  have hgp := AS.get_put hp
  have hB := h.own id o b κ hg ho hσ
  refine ⟨⟨hu.os.trans h.below.os, hu.tape.trans h.below.tape, hu.output.trans h.below.output, by rw [hu.size]; exact h.below.size, fun k hk => by rw [hu.other k (by omega)]; exact h.below.block k hk⟩,
    by rw [hu.size]; exact h.size, ?_, ?_, ?_, ?_, ?_⟩
  · intro j x hj
    rw [hgp] at hj
    split at hj
    · rename_i e
      simp only [Option.some.injEq] at hj
      subst hj e
      exact ⟨b, κ, hσ, fun _ => ⟨ob, hu.here, hr⟩⟩
    · rename_i e
      obtain ⟨c, κ', hc, hv⟩ := h.obj j x hj
      refine ⟨c, κ', hc, fun hx => ?_⟩
      obtain ⟨ob', hob, hor⟩ := hv hx
      refine ⟨ob', ?_, hor⟩
      rw [hu.other c]
      · exact hob
      · rintro rfl
        by_cases hxo : x.own = true
        · exact h.inj j id x o c κ' κ e hj hg hxo ho hc hσ
        · have := h.ro j x c κ' hj (by simpa using hxo) hx hc
          omega
  · intro j x c κ' hj hx hc
    rw [hgp] at hj
    split at hj
    · rename_i e
      subst e
      exact h.own j o c κ' hg ho hc
    · exact h.own j x c κ' hj hx hc
  · intro i j x y c κ1 κ2 hij hi hj hx hy h1 h2
    rw [hgp] at hi hj
    split at hi
    · rename_i e
      subst e
      rw [if_neg (Ne.symm hij)] at hj
      exact h.inj i j o y c κ1 κ2 hij hg hj ho hy h1 h2
    · split at hj
      · rename_i e2
        subst e2
        exact h.inj i j x o c κ1 κ2 hij hi hg hx ho h1 h2
      · exact h.inj i j x y c κ1 κ2 hij hi hj hx hy h1 h2
  · intro j x c κ' hj hx hx2 hc
    rw [hgp] at hj
    split at hj
    · simp only [Option.some.injEq] at hj; subst hj; rw [ho'] at hx; cases hx
    · exact h.ro j x c κ' hj hx hx2 hc
  · intro j hj
    rw [hgp] at hj
    split at hj
    · cases hj
    · exact h.fresh j hj

/-- A block goes over to a new number (an append that may have stayed in place): the old number is dead. -/
theorem Rep.rebind {o o' : AObj} {id id' : Nat} {s1 s' : AS} {b κ : Nat} (h : Rep F B w0 σ w s) (hg : s.get id = some o) (ho : o.own = true) (hp : s.put id .dead = some s1) (hn : s1.new o' = some (id', s'))
    (ho' : o'.own = true) (hσ : σ id = some (b, κ)) {w' : World} {ob : Obj} (hu : Upd w w' b ob) (κ' : Nat) (hr : OR F (σ.upd id' (b, κ')) κ' o' ob) :
    σ.le (σ.upd id' (b, κ')) ∧ Rep F B w0 (σ.upd id' (b, κ')) w' s' := by
  have hgp := AS.get_put hp
  obtain ⟨h0, hgn⟩ := AS.get_new hn
  have hne : id' ≠ id := by
    rintro rfl
    rw [hgp] at h0
    simp at h0
  have h0' : s.get id' = none := by rw [hgp, if_neg hne] at h0; exact h0
  have hB := h.own id o b κ hg ho hσ
  have hle := Sig.le_upd (b, κ') (h.fresh _ h0')
  have key : ∀ j, s'.get j = if j = id' then some o' else if j = id then some .dead else s.get j := by
    intro j; rw [hgn, hgp]
  refine ⟨hle, ⟨⟨hu.os.trans h.below.os, hu.tape.trans h.below.tape, hu.output.trans h.below.output, by rw [hu.size]; exact h.below.size, fun k hk => by rw [hu.other k (by omega)]; exact h.below.block k hk⟩,
    by rw [hu.size]; exact h.size, ?_, ?_, ?_, ?_, ?_⟩⟩
  · intro j x hj
    rw [key] at hj
    split at hj
    · rename_i e
      simp only [Option.some.injEq] at hj
      subst hj e
      exact ⟨b, κ', Sig.upd_same _ _ _, fun _ => ⟨ob, hu.here, hr⟩⟩
    · rename_i e
      split at hj
      · rename_i e2
        simp only [Option.some.injEq] at hj
        subst hj e2
        exact ⟨b, κ, hle _ _ hσ, fun hv => by cases hv⟩
      · rename_i e2
        obtain ⟨c, κ2, hc, hv⟩ := h.obj j x hj
        refine ⟨c, κ2, hle _ _ hc, fun hx => ?_⟩
        obtain ⟨ob', hob, hor⟩ := hv hx
        refine ⟨ob', ?_, hor.mono hle⟩
        rw [hu.other c]
        · exact hob
        · rintro rfl
          by_cases hxo : x.own = true
          · exact h.inj j id x o c κ2 κ e2 hj hg hxo ho hc hσ
          · have := h.ro j x c κ2 hj (by simpa using hxo) hx hc
            omega
  · intro j x c κ2 hj hx hc
    rw [key] at hj
    split at hj
    · rename_i e
      subst e
      rw [Sig.upd_same] at hc
      simp only [Option.some.injEq, Prod.mk.injEq] at hc
      omega
    · rename_i e
      rw [Sig.upd_ne _ _ e] at hc
      split at hj
      · simp only [Option.some.injEq] at hj; subst hj; cases hx
      · exact h.own j x c κ2 hj hx hc
  · intro i j x y c κ1 κ2 hij hi hj hx hy h1 h2
    rw [key] at hi hj
    split at hi
    · rename_i e
      subst e
      rw [if_neg (Ne.symm hij)] at hj
      rw [Sig.upd_same] at h1
      rw [Sig.upd_ne _ _ (Ne.symm hij)] at h2
      simp only [Option.some.injEq, Prod.mk.injEq] at h1
      split at hj
      · simp only [Option.some.injEq] at hj; subst hj; cases hy
      · rename_i e2
        exact h.inj j id y o b κ2 κ e2 hj hg hy ho (by rw [h2, h1.1]) hσ
    · rename_i e
      rw [Sig.upd_ne _ _ e] at h1
      split at hi
      · simp only [Option.some.injEq] at hi; subst hi; cases hx
      · rename_i e2
        split at hj
        · rename_i e3
          subst e3
          rw [Sig.upd_same] at h2
          simp only [Option.some.injEq, Prod.mk.injEq] at h2
          exact h.inj i id x o b κ1 κ e2 hi hg hx ho (by rw [h1, h2.1]) hσ
        · rename_i e3
          rw [Sig.upd_ne _ _ e3] at h2
          split at hj
          · simp only [Option.some.injEq] at hj; subst hj; cases hy
          · exact h.inj i j x y c κ1 κ2 hij hi hj hx hy h1 h2
  · intro j x c κ2 hj hx hx2 hc
    rw [key] at hj
    split at hj
    · simp only [Option.some.injEq] at hj; subst hj; rw [ho'] at hx; cases hx
    · rename_i e
      rw [Sig.upd_ne _ _ e] at hc
      split at hj
      · simp only [Option.some.injEq] at hj; subst hj; cases hx2
      · exact h.ro j x c κ2 hj hx hx2 hc
  · intro j hj
    rw [key] at hj
    split at hj
    · cases hj
    · rename_i e
      rw [Sig.upd_ne _ _ e]
      split at hj
      · cases hj
      · exact h.fresh j hj

/-- A number goes dead; memory stays. -/
theorem Rep.kill {o : AObj} {id : Nat} {s' : AS} (h : Rep F B w0 σ w s) (hg : s.get id = some o) (hp : s.put id .dead = some s') : Rep F B w0 σ w s' := by
  have hgp := AS.get_put hp
  refine ⟨h.below, h.size, ?_, ?_, ?_, ?_, ?_⟩
  · intro j x hj
    rw [hgp] at hj
    split at hj
    · rename_i e
      simp only [Option.some.injEq] at hj
      subst hj e
      obtain ⟨b, κ, hb, _⟩ := h.obj _ o hg
      exact ⟨b, κ, hb, fun hv => by cases hv⟩
    · exact h.obj j x hj
  · intro j x c κ' hj hx hc
    rw [hgp] at hj
    split at hj
    · simp only [Option.some.injEq] at hj; subst hj; cases hx
    · exact h.own j x c κ' hj hx hc
  · intro i j x y c κ1 κ2 hij hi hj hx hy h1 h2
    rw [hgp] at hi hj
    split at hi
    · simp only [Option.some.injEq] at hi; subst hi; cases hx
    · split at hj
      · simp only [Option.some.injEq] at hj; subst hj; cases hy
      · exact h.inj i j x y c κ1 κ2 hij hi hj hx hy h1 h2
  · intro j x c κ' hj hx hx2 hc
    rw [hgp] at hj
    split at hj
    · simp only [Option.some.injEq] at hj; subst hj; cases hx2
    · exact h.ro j x c κ' hj hx hx2 hc
  · intro j hj
    rw [hgp] at hj
    split at hj
    · cases hj
    · exact h.fresh j hj
end
end Go.Sx
