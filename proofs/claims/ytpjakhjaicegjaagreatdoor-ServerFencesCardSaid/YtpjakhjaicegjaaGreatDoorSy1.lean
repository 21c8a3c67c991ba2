/- Abstract values and abstract memory of an evaluator for Go code, and how they stand to the model's own. Conditions: none. -/
import Derived.Test.YtpjakhjaicegjaaGreatDoorSyD
import Derived.Below
namespace Go.Sy
open Go.RowKit
variable {S : Sg}

/-- A capacity: known, or what is left of a row's own room. -/
inductive CapE where
  | lit (n : Nat)
  | rest (sub : Nat)
def CapE.val (κ : Nat) : CapE → Nat
  | .lit n => n
  | .rest s => κ - s
/-- A view's capacity: what is left of its row; its length; anything. -/
inductive CapV where
  | rest
  | tight
  | any

inductive AV where
  | bool (b : Bool)
  | tb (t : Tm)
  | int (k : IntKind) (e : Tm)
  | str (s : List UInt8)
  | ts (t : Tm)
  | nilptr
  | ptr (id off : Nat)
  | gptr (g off : Nat)
  | nilsl
  | sl (id off len : Nat) (cap : CapE)
  | vw (id : Nat) (off len : Tm) (cap : CapV)
  | rv (id : Nat) (off len : Tm)
  | argl (e : Tm)
  | argz
  | nilmap
  | map (id : Nat)
  | func (f : Fn) (first caps : List AV)
  | nilFunc
  | iface (t : TypeId) (v : AV)
  | nilIface
  | agg (cs : List AV)
  | tup (vs : List AV)
  | opq (t : Tm)
  | dp (id : Nat) (i : Tm) (ro : Bool)

abbrev Sig := Nat → Option (Nat × Nat)

def Sig.le (σ τ : Sig) : Prop := ∀ id x, σ id = some x → τ id = some x
theorem Sig.le_refl (σ : Sig) : σ.le σ := fun _ _ h => h
theorem Sig.le_trans {a b c : Sig} (h : a.le b) (k : b.le c) : a.le c := fun _ _ e => k _ _ (h _ _ e)

def bytesOf (l : List UInt8) : ByteArray := ⟨l.toArray⟩

/-- A view at a place: from a base on, so many elements. -/
def ViewAt (F : Fix S) (b base κ : Nat) (off len : Tm) (cap : CapV) (v : Value) : Prop :=
  ∃ o n c : Nat, (off.val F).i = (o : Int) ∧ (len.val F).i = (n : Int) ∧
    match cap with
    | .rest => v = .slice (some ⟨b, base + o, none⟩) n c ∧ c = κ - o ∧ o + n ≤ κ
    | .tight => v = .slice (some ⟨b, base + o, none⟩) n c ∧ c = n
    | .any => (v = .slice (some ⟨b, base + o, none⟩) n c ∧ n ≤ c) ∨ (n = 0 ∧ ∃ a, v = .slice (some a) 0 c)

section
variable (F : Fix S)
mutual
def VR (σ : Sig) : AV → Value → Prop
  | .bool b, v => v = .bool b
  | .tb t, v => v = .bool (t.val F).b
  | .int k e, v => v = .int k (e.val F).i
  | .str s, v => v = .string (bytesOf s)
  | .ts t, v => v = .string (bytesOf (t.val F).d)
  | .nilptr, v => v = .pointer none
  | .ptr id off, v => ∃ b κ, σ id = some (b, κ) ∧ v = .pointer (some ⟨b, off, none⟩)
  | .gptr g off, v => v = .pointer (some ⟨g, off, none⟩)
  | .nilsl, v => v = .slice none 0 0
  | .sl id off len cap, v => ∃ b κ, σ id = some (b, κ) ∧ v = .slice (some ⟨b, off, none⟩) len (cap.val κ)
  | .vw id off len cap, v => ∃ b κ, σ id = some (b, κ) ∧ ViewAt F b 0 κ off len cap v
  | .rv id off len, v => ∃ b κ, σ id = some (b, κ) ∧ ViewAt F b κ 0 off len .any v
  | .argl e, v => ∃ (a : Option Addr) (n c : Nat), (e.val F).i = (n : Int) ∧ v = .slice a n c
  | .argz, v => ∃ (a : Addr) (c : Nat), v = .slice (some a) 0 c
  | .nilmap, v => v = .map none
  | .map id, v => ∃ b κ, σ id = some (b, κ) ∧ v = .map (some b)
  | .func f a c, v => ∃ l m, VRs σ a l ∧ VRs σ c m ∧ v = .func f l.toArray m.toArray
  | .nilFunc, v => v = .nilFunc
  | .iface t x, v => ∃ y, VR σ x y ∧ v = .iface t y
  | .nilIface, v => v = .nilIface
  | .agg cs, v => ∃ l, VRs σ cs l ∧ v = .agg l.toArray
  | .tup cs, v => ∃ l, VRs σ cs l ∧ v = .tuple l.toArray
  | .opq t, v => v = (t.val F).v ∧ v.oneCell' = true
  | .dp id i ro, v => ∃ b κ, σ id = some (b, κ) ∧ ∃ o : Nat, (i.val F).i = (o : Int) ∧ v = .pointer (some ⟨b, cond ro κ 0 + o, none⟩)
def VRs (σ : Sig) : List AV → List Value → Prop
  | [], l => l = []
  | c :: cs, l => ∃ y ys, VR σ c y ∧ VRs σ cs ys ∧ l = y :: ys
end

variable {F}
mutual
theorem VR.mono {σ τ : Sig} (h : σ.le τ) : ∀ (a : AV) (v : Value), VR F σ a v → VR F τ a v
  | .bool _, _, e | .int _ _, _, e | .str _, _, e | .nilptr, _, e | .gptr _ _, _, e | .nilsl, _, e | .nilmap, _, e | .nilFunc, _, e | .nilIface, _, e => by
    simpa only [VR] using e
  | .argl _, _, e | .argz, _, e | .tb _, _, e | .ts _, _, e | .opq _, _, e => by simpa only [VR] using e
  | .ptr _ _, _, e | .sl _ _ _ _, _, e | .vw _ _ _ _, _, e | .rv _ _ _, _, e | .map _, _, e | .dp _ _ _, _, e => by
    simp only [VR] at e ⊢
    obtain ⟨b, κ, hs, hv⟩ := e
    exact ⟨b, κ, h _ _ hs, hv⟩
  | .func _ a c, _, e => by
    simp only [VR] at e ⊢
    obtain ⟨l, m, ha, hc, hv⟩ := e
    exact ⟨l, m, VRs.mono h a l ha, VRs.mono h c m hc, hv⟩
  | .iface _ x, _, e => by
    simp only [VR] at e ⊢
    obtain ⟨y, hy, hv⟩ := e
    exact ⟨y, VR.mono h x y hy, hv⟩
  | .agg cs, _, e => by
    simp only [VR] at e ⊢
    obtain ⟨l, hl, hv⟩ := e
    exact ⟨l, VRs.mono h cs l hl, hv⟩
  | .tup cs, _, e => by
    simp only [VR] at e ⊢
    obtain ⟨l, hl, hv⟩ := e
    exact ⟨l, VRs.mono h cs l hl, hv⟩
theorem VRs.mono {σ τ : Sig} (h : σ.le τ) : ∀ (a : List AV) (v : List Value), VRs F σ a v → VRs F τ a v
  | [], _, e => by simpa only [VRs] using e
  | c :: cs, _, e => by
    simp only [VRs] at e ⊢
    obtain ⟨y, ys, hy, hys, hv⟩ := e
    exact ⟨y, ys, VR.mono h c y hy, VRs.mono h cs ys hys, hv⟩
end

theorem VRs.length {σ : Sig} : ∀ {a : List AV} {v : List Value}, VRs F σ a v → v.length = a.length
  | [], _, e => by simp only [VRs] at e; simp [e]
  | c :: cs, _, e => by
    simp only [VRs] at e
    obtain ⟨y, ys, _, hys, rfl⟩ := e
    simp [VRs.length hys]

theorem VRs.get {σ : Sig} : ∀ {a : List AV} {v : List Value}, VRs F σ a v → ∀ (i : Nat) (x : AV), a[i]? = some x → ∃ y, v[i]? = some y ∧ VR F σ x y
  | [], _, _, i, x, h => by simp at h
  | c :: cs, _, e, i, x, h => by
    simp only [VRs] at e
    obtain ⟨y, ys, hy, hys, rfl⟩ := e
    cases i with
    | zero => simp at h; subst h; exact ⟨y, rfl, hy⟩
    | succ i => simp at h; obtain ⟨z, hz, hr⟩ := VRs.get hys i x h; exact ⟨z, by simpa using hz, hr⟩

theorem VRs.append {σ : Sig} : ∀ {a b : List AV} {v u : List Value}, VRs F σ a v → VRs F σ b u → VRs F σ (a ++ b) (v ++ u)
  | [], _, _, _, e, h => by simp only [VRs] at e; subst e; simpa using h
  | c :: cs, b, _, u, e, h => by
    simp only [VRs, List.cons_append] at e ⊢
    obtain ⟨y, ys, hy, hys, rfl⟩ := e
    exact ⟨y, ys ++ u, hy, VRs.append hys h, by simp⟩

theorem VRs.take {σ : Sig} : ∀ {a : List AV} {v : List Value} (n : Nat), VRs F σ a v → VRs F σ (a.take n) (v.take n)
  | [], _, n, e => by simp only [VRs] at e; subst e; simp [VRs]
  | c :: cs, _, n, e => by
    cases n with
    | zero => simp [VRs]
    | succ n =>
      simp only [VRs, List.take_succ_cons] at e ⊢
      obtain ⟨y, ys, hy, hys, rfl⟩ := e
      exact ⟨y, ys.take n, hy, VRs.take n hys, by simp⟩

theorem VRs.drop {σ : Sig} : ∀ {a : List AV} {v : List Value} (n : Nat), VRs F σ a v → VRs F σ (a.drop n) (v.drop n)
  | [], _, n, e => by simp only [VRs] at e; subst e; simp [VRs]
  | c :: cs, _, n, e => by
    cases n with
    | zero => simpa using e
    | succ n =>
      simp only [VRs] at e
      obtain ⟨y, ys, hy, hys, rfl⟩ := e
      simpa using VRs.drop n hys

theorem VRs.set {σ : Sig} : ∀ {a : List AV} {v : List Value} (i : Nat) {x : AV} {y : Value}, VRs F σ a v → VR F σ x y → VRs F σ (a.set i x) (v.set i y)
  | [], _, i, _, _, e, _ => by simp only [VRs] at e; subst e; simp [VRs]
  | c :: cs, _, i, x, y, e, h => by
    simp only [VRs] at e
    obtain ⟨z, zs, hz, hzs, rfl⟩ := e
    cases i with
    | zero => simp only [List.set_cons_zero, VRs]; exact ⟨y, zs, h, hzs, rfl⟩
    | succ i => simp only [List.set_cons_succ, VRs]; exact ⟨z, zs.set i y, hz, VRs.set i hzs h, rfl⟩

theorem VRs.getD {σ : Sig} {a : List AV} {v : List Value} (h : VRs F σ a v) (i : Nat) : VR F σ (a.getD i (.tup [])) (v.getD i undef) := by
  simp only [List.getD]
  cases hx : a[i]? with
  | none =>
    have hl := h.length
    have : v[i]? = none := by simp only [List.getElem?_eq_none_iff] at hx ⊢; omega
    simp [this, VR, VRs, undef]
  | some x =>
    obtain ⟨y, hy, hr⟩ := h.get i x hx
    simpa [hy] using hr

theorem VRs.replicate {σ : Sig} (n : Nat) {x : AV} {y : Value} (h : VR F σ x y) : VRs F σ (List.replicate n x) (List.replicate n y) := by
  induction n with
  | zero => simp [VRs]
  | succ n ih => simp only [List.replicate_succ, VRs]; exact ⟨y, _, h, ih, rfl⟩
end


/-- Memory: a map from numbers to what stands there. -/
inductive AObj where
  | cells (vs : List AV) (e : TypeId)
  | row (vs : List AV) (e : TypeId) (sz : Nat)
  | data (t : Tm) (e : TypeId)
  | rdata (t : Tm)
  | fro (vs : List AV) (e : TypeId)
  | map (es : List (AV × AV × Nat)) (clock : Nat)
  | striter (s : List UInt8) (pos : Nat)
  | mapiter (m : Option Nat) (since : Nat) (seen : List Nat) (stepped : Nat)
  | chunk (c : Nat) (args : List AV) (t : Tm)
  | dead

/-- A map from numbers, as a tree: laid out for the kernel's own reckoning. -/
inductive Tr (α : Type) where
  | nil
  | node (l : Tr α) (o : Option α) (r : Tr α)

noncomputable def Tr.get {α : Type} (f : Nat) : Tr α → Nat → Option α :=
  @Nat.rec (fun _ => Tr α → Nat → Option α) (fun _ _ => none) (fun _ ih t k =>
    @Tr.rec α (fun _ => Option α) none (fun l o r _ _ =>
      @Nat.rec (fun _ => Option α) o (fun _ _ =>
        @Nat.rec (fun _ => Option α) (ih r (Nat.pred (Nat.div k 2))) (fun _ _ => ih l (Nat.div k 2)) (Nat.mod k 2)) k) t) f

noncomputable def Tr.set {α : Type} (v : α) (f : Nat) : Tr α → Nat → Tr α :=
  @Nat.rec (fun _ => Tr α → Nat → Tr α) (fun t _ => t) (fun _ ih t k =>
    @Tr.rec α (fun _ => Tr α)
      (@Nat.rec (fun _ => Tr α) (.node .nil (some v) .nil) (fun _ _ =>
        @Nat.rec (fun _ => Tr α) (.node .nil none (ih .nil (Nat.pred (Nat.div k 2)))) (fun _ _ => .node (ih .nil (Nat.div k 2)) none .nil) (Nat.mod k 2)) k)
      (fun l o r _ _ => @Nat.rec (fun _ => Tr α) (.node l (some v) r) (fun _ _ =>
        @Nat.rec (fun _ => Tr α) (.node l o (ih r (Nat.pred (Nat.div k 2)))) (fun _ _ => .node (ih l (Nat.div k 2)) o r) (Nat.mod k 2)) k) t) f

section
variable {α : Type}
theorem Tr.get_nil (f k : Nat) : Tr.get f (.nil : Tr α) k = none := by cases f <;> rfl
theorem Tr.get_zero (f : Nat) (l r : Tr α) (o : Option α) : Tr.get (f + 1) (.node l o r) 0 = o := rfl
theorem Tr.get_odd (f : Nat) (l r : Tr α) (o : Option α) (k : Nat) (h0 : k ≠ 0) (h : k % 2 = 1) : Tr.get (f + 1) (.node l o r) k = Tr.get f l (k / 2) := by
  obtain ⟨j, rfl⟩ := Nat.exists_eq_succ_of_ne_zero h0
  have h' : Nat.mod (j + 1) 2 = 1 := h
  show @Nat.rec (fun _ => Option α) _ _ (Nat.mod (j + 1) 2) = _
  rw [h']
  rfl
theorem Tr.get_even (f : Nat) (l r : Tr α) (o : Option α) (k : Nat) (h0 : k ≠ 0) (h : k % 2 = 0) : Tr.get (f + 1) (.node l o r) k = Tr.get f r (k / 2 - 1) := by
  obtain ⟨j, rfl⟩ := Nat.exists_eq_succ_of_ne_zero h0
  have h' : Nat.mod (j + 1) 2 = 0 := h
  show @Nat.rec (fun _ => Option α) _ _ (Nat.mod (j + 1) 2) = _
  rw [h']
  rfl
theorem Tr.set_zero (v : α) (f : Nat) (l r : Tr α) (o : Option α) : Tr.set v (f + 1) (.node l o r) 0 = .node l (some v) r := rfl
theorem Tr.set_nil_zero (v : α) (f : Nat) : Tr.set v (f + 1) .nil 0 = .node .nil (some v) .nil := rfl
theorem Tr.set_odd (v : α) (f : Nat) (l r : Tr α) (o : Option α) (k : Nat) (h0 : k ≠ 0) (h : k % 2 = 1) : Tr.set v (f + 1) (.node l o r) k = .node (Tr.set v f l (k / 2)) o r := by
  obtain ⟨j, rfl⟩ := Nat.exists_eq_succ_of_ne_zero h0
  have h' : Nat.mod (j + 1) 2 = 1 := h
  show @Nat.rec (fun _ => Tr α) _ _ (Nat.mod (j + 1) 2) = _
  rw [h']
  rfl
theorem Tr.set_even (v : α) (f : Nat) (l r : Tr α) (o : Option α) (k : Nat) (h0 : k ≠ 0) (h : k % 2 = 0) : Tr.set v (f + 1) (.node l o r) k = .node l o (Tr.set v f r (k / 2 - 1)) := by
  obtain ⟨j, rfl⟩ := Nat.exists_eq_succ_of_ne_zero h0
  have h' : Nat.mod (j + 1) 2 = 0 := h
  show @Nat.rec (fun _ => Tr α) _ _ (Nat.mod (j + 1) 2) = _
  rw [h']
  rfl
theorem Tr.set_nil_odd (v : α) (f : Nat) (k : Nat) (h0 : k ≠ 0) (h : k % 2 = 1) : Tr.set v (f + 1) .nil k = .node (Tr.set v f .nil (k / 2)) none .nil := by
  obtain ⟨j, rfl⟩ := Nat.exists_eq_succ_of_ne_zero h0
  have h' : Nat.mod (j + 1) 2 = 1 := h
  show @Nat.rec (fun _ => Tr α) _ _ (Nat.mod (j + 1) 2) = _
  rw [h']
  rfl
theorem Tr.set_nil_even (v : α) (f : Nat) (k : Nat) (h0 : k ≠ 0) (h : k % 2 = 0) : Tr.set v (f + 1) .nil k = .node .nil none (Tr.set v f .nil (k / 2 - 1)) := by
  obtain ⟨j, rfl⟩ := Nat.exists_eq_succ_of_ne_zero h0
  have h' : Nat.mod (j + 1) 2 = 0 := h
  show @Nat.rec (fun _ => Tr α) _ _ (Nat.mod (j + 1) 2) = _
  rw [h']
  rfl

theorem Tr.get_set (v : α) : ∀ (f : Nat) (t : Tr α) (k : Nat), k + 1 < 2 ^ f → ∀ j, Tr.get f (Tr.set v f t k) j = if j = k then some v else Tr.get f t j
  | 0, _, k, h => by simp at h
  | f + 1, t, k, h => by
    have hp : 2 ^ (f + 1) = 2 * 2 ^ f := by rw [Nat.pow_succ, Nat.mul_comm]
    intro j
    have hk1 : ∀ j : Nat, j % 2 = 1 → k % 2 = 1 → (j / 2 = k / 2 ↔ j = k) := by intro j _ _; omega
    have hk2 : ∀ j : Nat, j ≠ 0 → j % 2 = 0 → k ≠ 0 → k % 2 = 0 → (j / 2 - 1 = k / 2 - 1 ↔ j = k) := by intro j _ _ _ _; omega
    have step : ∀ (l r : Tr α) (o : Option α), (∀ i, Tr.get (f + 1) t i = Tr.get (f + 1) (.node l o r) i) →
        Tr.set v (f + 1) t k = Tr.set v (f + 1) (.node l o r) k → Tr.get (f + 1) (Tr.set v (f + 1) t k) j = if j = k then some v else Tr.get (f + 1) t j := by
      intro l r o hg hs
      rw [hs, hg]
      by_cases h0 : k = 0
      · subst h0
        rw [Tr.set_zero]
        by_cases hj : j = 0
        · subst hj; simp [Tr.get_zero]
        · rw [if_neg hj]
          rcases Nat.mod_two_eq_zero_or_one j with h2 | h2
          · rw [Tr.get_even _ _ _ _ _ hj h2, Tr.get_even _ _ _ _ _ hj h2]
          · rw [Tr.get_odd _ _ _ _ _ hj h2, Tr.get_odd _ _ _ _ _ hj h2]
      · rcases Nat.mod_two_eq_zero_or_one k with h1 | h1
        · rw [Tr.set_even _ _ _ _ _ _ h0 h1]
          have ih := Tr.get_set v f r (k / 2 - 1) (by omega)
          by_cases hj : j = 0
          · subst hj; rw [if_neg (Ne.symm h0)]; rfl
          · rcases Nat.mod_two_eq_zero_or_one j with h2 | h2
            · rw [Tr.get_even _ _ _ _ _ hj h2, Tr.get_even _ _ _ _ _ hj h2, ih]
              simp only [hk2 j hj h2 h0 h1]
            · rw [Tr.get_odd _ _ _ _ _ hj h2, Tr.get_odd _ _ _ _ _ hj h2, if_neg (by omega)]
        · rw [Tr.set_odd _ _ _ _ _ _ h0 h1]
          have ih := Tr.get_set v f l (k / 2) (by omega)
          by_cases hj : j = 0
          · subst hj; rw [if_neg (Ne.symm h0)]; rfl
          · rcases Nat.mod_two_eq_zero_or_one j with h2 | h2
            · rw [Tr.get_even _ _ _ _ _ hj h2, Tr.get_even _ _ _ _ _ hj h2, if_neg (by omega)]
            · rw [Tr.get_odd _ _ _ _ _ hj h2, Tr.get_odd _ _ _ _ _ hj h2, ih]
              simp only [hk1 j h2 h1]
    cases t with
    | node l o r => exact step l r o (fun _ => rfl) rfl
    | nil =>
      refine step .nil .nil none (fun i => ?_) ?_
      · rw [Tr.get_nil]
        by_cases hi : i = 0
        · subst hi; rfl
        · rcases Nat.mod_two_eq_zero_or_one i with h2 | h2
          · rw [Tr.get_even _ _ _ _ _ hi h2, Tr.get_nil]
          · rw [Tr.get_odd _ _ _ _ _ hi h2, Tr.get_nil]
      · by_cases h0 : k = 0
        · subst h0; rfl
        · rcases Nat.mod_two_eq_zero_or_one k with h1 | h1
          · rw [Tr.set_nil_even _ _ _ h0 h1, Tr.set_even _ _ _ _ _ _ h0 h1]
          · rw [Tr.set_nil_odd _ _ _ h0 h1, Tr.set_odd _ _ _ _ _ _ h0 h1]
end

/-- A call's frame: a value a slot; of a slot that has none nothing is known. -/
abbrev Fr := Tr AV
noncomputable def fget (tm : Fr) (t : Nat) : Option AV := Tr.get 12 tm t
noncomputable def fset (N : Nat) (tm : Fr) (t : Nat) (v : AV) : Fr := @Bool.rec (fun _ => Fr) tm (Tr.set v 12 tm t) (Nat.blt t N)

theorem fget_fset {N : Nat} (hN : N < 4095) (tm : Fr) (t : Nat) (v : AV) (j : Nat) : fget (fset N tm t v) j = if j = t ∧ t < N then some v else fget tm j := by
  unfold fset
  cases hb : Nat.blt t N with
  | false =>
    have : ¬ t < N := by intro h; have := Nat.blt_eq.mpr h; rw [hb] at this; cases this
    rw [if_neg (fun h => this h.2)]
  | true =>
    have hlt : t < N := Nat.blt_eq.mp hb
    have hg := Tr.get_set v 12 tm t (by omega) j
    show Tr.get 12 (Tr.set v 12 tm t) j = _
    rw [hg]
    by_cases hj : j = t
    · subst hj; simp [hlt]
    · simp only [hj, if_false, false_and]; rfl

structure AS where
  h : Tr AObj
  next : Nat

noncomputable def AS.get (s : AS) (id : Nat) : Option AObj := Tr.get 24 s.h id
noncomputable def AS.put (s : AS) (id : Nat) (o : AObj) : Option AS := @Bool.rec (fun _ => Option AS) none (some ⟨Tr.set o 24 s.h id, s.next⟩) (Nat.blt id 16777215)
noncomputable def AS.newAt (s : AS) (o : AObj) (n : Nat) : Option (Nat × AS) := @Bool.rec (fun _ => Option (Nat × AS)) none (some (n, ⟨Tr.set o 24 s.h n, Nat.succ n⟩)) (Nat.blt n 16777215)
noncomputable def AS.new (s : AS) (o : AObj) : Option (Nat × AS) :=
  match s.get s.next with
  | some _ => none
  | none => @Nat.rec (fun _ => Option (Nat × AS)) (s.newAt o 0) (fun m _ => s.newAt o (m + 1)) s.next

theorem AS.get_put {s s' : AS} {id : Nat} {o : AObj} (h : s.put id o = some s') (j : Nat) : s'.get j = if j = id then some o else s.get j := by
  unfold AS.put at h
  cases hb : Nat.blt id 16777215 with
  | false => rw [hb] at h; cases h
  | true =>
    rw [hb] at h
    have hlt := Nat.blt_eq.mp hb
    have h' : some (⟨Tr.set o 24 s.h id, s.next⟩ : AS) = some s' := h
    simp only [Option.some.injEq] at h'
    subst h'
    exact Tr.get_set o 24 s.h id (by omega) j

theorem AS.get_new {s s' : AS} {id : Nat} {o : AObj} (h : s.new o = some (id, s')) : s.get id = none ∧ ∀ j, s'.get j = if j = id then some o else s.get j := by
  unfold AS.new at h
  split at h
  · cases h
  · rename_i h0
    have h1 : AS.newAt s o s.next = some (id, s') := by
      cases hn : s.next with
      | zero => rw [hn] at h; exact h
      | succ m => rw [hn] at h; exact h
    unfold AS.newAt at h1
    cases hb : Nat.blt s.next 16777215 with
    | false => rw [hb] at h1; cases h1
    | true =>
      rw [hb] at h1
      have hlt := Nat.blt_eq.mp hb
      have h' : some (s.next, (⟨Tr.set o 24 s.h s.next, Nat.succ s.next⟩ : AS)) = some (id, s') := h1
      simp only [Option.some.injEq, Prod.mk.injEq] at h'
      obtain ⟨rfl, rfl⟩ := h'
      exact ⟨h0, fun j => Tr.get_set o 24 s.h s.next (by omega) j⟩

def AObj.own : AObj → Bool
  | .rdata _ | .dead => false
  | _ => true
def AObj.live : AObj → Bool
  | .dead => false
  | _ => true
def AObj.plain : AObj → Bool
  | .chunk _ _ _ => false
  | _ => true

def byteV (b : UInt8) : Value := .int .u8 b.toNat

section
variable (F : Fix S)
def ERs (σ : Sig) : List (AV × AV × Nat) → List MapEntry → Prop
  | [], l => l = []
  | (k, v, n) :: xs, l => ∃ y ys, VR F σ k y.key ∧ VR F σ v y.val ∧ y.born = n ∧ ERs σ xs ys ∧ l = y :: ys

def IR (σ : Sig) : Option Nat → Option Nat → Prop
  | none, m => m = none
  | some id, m => ∃ b κ, σ id = some (b, κ) ∧ m = some b

def OR (σ : Sig) (κ : Nat) : AObj → Obj → Prop
  | .cells vs e, ob => ∃ l, VRs F σ vs l ∧ ob = .cells l.toArray e (0, 0)
  | .row vs e sz, ob => ∃ arr, VRs F σ vs (arr.toList.take vs.length) ∧ ob = .cells arr e (0, 0) ∧ arr.size = κ * sz ∧ κ ≤ maxLen
  | .data t e, ob => ∃ arr, arr.toList.take (t.val F).d.length = (t.val F).d.map byteV ∧ ob = .cells arr e (0, 0) ∧ arr.size = κ ∧ κ ≤ maxLen
  | .rdata t, ob => ∃ arr e fr, (arr.toList.drop κ).take (t.val F).d.length = (t.val F).d.map byteV ∧ ob = .cells arr e fr
  | .fro vs e, ob => ∃ arr fr, VRs F σ vs (arr.toList.take vs.length) ∧ ob = .cells arr e fr
  | .map es c, ob => ∃ l, ERs F σ es l ∧ ob = .map l.toArray c
  | .striter s p, ob => ob = .stringIter (bytesOf s) p
  | .mapiter m since seen st, ob => ∃ mb, IR σ m mb ∧ ob = .mapIter mb since seen.toArray st
  | .chunk _ _ _, _ => False
  | .dead, _ => True

/-- What stands in memory for a live number: one block, or many. -/
def LR (σ : Sig) (κ : Nat) (o : AObj) (b : Nat) (φ : Nat → Prop) (h : Nat → Option Obj) : Prop :=
  match o with
  | .chunk c args t => ∃ vs, VRs F σ args vs ∧ S.ck c vs (t.val F) b h φ
  | o => (∃ ob, h b = some ob ∧ OR F σ κ o ob) ∧ ∀ x, φ x → x = b

variable {F}
theorem ERs.mono {σ τ : Sig} (h : σ.le τ) : ∀ {a : List (AV × AV × Nat)} {l : List MapEntry}, ERs F σ a l → ERs F τ a l
  | [], _, e => by simpa only [ERs] using e
  | (k, v, n) :: xs, _, e => by
    simp only [ERs] at e ⊢
    obtain ⟨y, ys, h1, h2, h3, h4, rfl⟩ := e
    exact ⟨y, ys, h1.mono h, h2.mono h, h3, ERs.mono h h4, rfl⟩

theorem OR.mono {σ τ : Sig} (h : σ.le τ) {κ : Nat} {o : AObj} {ob : Obj} (e : OR F σ κ o ob) : OR F τ κ o ob := by
  cases o with
  | cells vs t => obtain ⟨l, h1, h2⟩ := e; exact ⟨l, h1.mono h, h2⟩
  | row vs t sz => obtain ⟨l, h1, h2⟩ := e; exact ⟨l, h1.mono h, h2⟩
  | data t e' => exact e
  | rdata d => exact e
  | fro vs t => obtain ⟨arr, fr, h1, h2⟩ := e; exact ⟨arr, fr, h1.mono h, h2⟩
  | map es c => obtain ⟨l, h1, h2⟩ := e; exact ⟨l, h1.mono h, h2⟩
  | striter s p => exact e
  | mapiter m since seen st =>
    obtain ⟨mb, h1, h2⟩ := e
    refine ⟨mb, ?_, h2⟩
    cases m with
    | none => exact h1
    | some id => obtain ⟨b, κ', hb, hm⟩ := h1; exact ⟨b, κ', h _ _ hb, hm⟩
  | chunk c args t => exact e
  | dead => trivial

theorem LR.mono {σ τ : Sig} (h : σ.le τ) {κ : Nat} {o : AObj} {b : Nat} {φ : Nat → Prop} {hp : Nat → Option Obj} (e : LR F σ κ o b φ hp) : LR F τ κ o b φ hp := by
  cases o with
  | chunk c args t => obtain ⟨vs, h1, h2⟩ := e; exact ⟨vs, h1.mono h, h2⟩
  | _ => obtain ⟨⟨ob, h1, h2⟩, h3⟩ := e; exact ⟨⟨ob, h1, h2.mono h⟩, h3⟩
theorem LR.plain {σ : Sig} {κ : Nat} {o : AObj} {b : Nat} {φ : Nat → Prop} {hp : Nat → Option Obj} (hpl : o.plain = true) (e : LR F σ κ o b φ hp) : (∃ ob, hp b = some ob ∧ OR F σ κ o ob) ∧ ∀ x, φ x → x = b := by
  cases o with
  | chunk c args t => cases hpl
  | _ => exact e
theorem LR.mk {σ : Sig} {κ : Nat} {o : AObj} {b : Nat} {φ : Nat → Prop} {hp : Nat → Option Obj} {ob : Obj} (h1 : hp b = some ob) (h2 : OR F σ κ o ob) (h3 : ∀ x, φ x → x = b) (hl : o.live = true) : LR F σ κ o b φ hp := by
  cases o with
  | chunk c args t => exact h2.elim
  | dead => cases hl
  | _ => exact ⟨⟨ob, h1, h2⟩, h3⟩
/-- Memory may change where it does not matter. -/
theorem LR.same {σ : Sig} {κ : Nat} {o : AObj} {b : Nat} {φ : Nat → Prop} {hp hp' : Nat → Option Obj} (hb : hp' b = hp b) (hφ : ∀ k, φ k → hp' k = hp k) (e : LR F σ κ o b φ hp) : LR F σ κ o b φ hp' := by
  cases o with
  | chunk c args t => obtain ⟨vs, h1, h2⟩ := e; exact ⟨vs, h1, S.local_ h2 hφ⟩
  | _ => obtain ⟨⟨ob, h1, h2⟩, h3⟩ := e; exact ⟨⟨ob, hb.trans h1, h2⟩, h3⟩
theorem LR.at_root {σ : Sig} {κ : Nat} {o : AObj} {b : Nat} {φ : Nat → Prop} {hp : Nat → Option Obj} (e : LR F σ κ o b φ hp) : hp b ≠ none := by
  cases o with
  | chunk c args t => obtain ⟨vs, _, h2⟩ := e; exact S.here h2 b (S.root h2)
  | _ => obtain ⟨⟨ob, h1, _⟩, _⟩ := e; rw [h1]; simp
theorem LR.at_foot {σ : Sig} {κ : Nat} {o : AObj} {b : Nat} {φ : Nat → Prop} {hp : Nat → Option Obj} (e : LR F σ κ o b φ hp) : ∀ k, φ k → hp k ≠ none := by
  intro k hk
  cases o with
  | chunk c args t => obtain ⟨vs, _, h2⟩ := e; exact S.here h2 k hk
  | _ => obtain ⟨⟨ob, h1, _⟩, h3⟩ := e; rw [h3 k hk, h1]; simp
end

def heapF (w : World) : Nat → Option Obj := fun k => w.heap[k]?
theorem heapF_lt {w : World} {k : Nat} (h : heapF w k ≠ none) : k < w.heap.size := by
  unfold heapF at h
  apply Classical.byContradiction
  intro hn
  exact h (by simp; omega)

/-- Everything that was there is as it was, but for some blocks. -/
structure Kept (A : Nat → Prop) (w w' : World) : Prop where
  os : w'.os = w.os
  tape : w'.tape = w.tape
  output : w'.output = w.output
  size : w.heap.size ≤ w'.heap.size
  block : ∀ k, k < w.heap.size → ¬ A k → w'.heap[k]? = w.heap[k]?
theorem Kept.refl (A : Nat → Prop) (w : World) : Kept A w w := ⟨rfl, rfl, rfl, Nat.le_refl _, fun _ _ _ => rfl⟩
theorem Kept.below {w w' : World} (h : Kept (fun _ => False) w w') : Below w.heap.size w w' := ⟨h.os, h.tape, h.output, h.size, fun k hk => h.block k hk (fun e => e)⟩
theorem Kept.of_below {A : Nat → Prop} {w w' : World} (h : Below w.heap.size w w') : Kept A w w' := ⟨h.os, h.tape, h.output, h.size, fun k hk _ => h.block k hk⟩
theorem Kept.trans {A A' : Nat → Prop} {a b c : World} (h : Kept A a b) (k : Kept A' b c) (hA : ∀ x, A' x → A x ∨ a.heap.size ≤ x) : Kept A a c :=
  ⟨k.os.trans h.os, k.tape.trans h.tape, k.output.trans h.output, Nat.le_trans h.size k.size, fun i hi hn => (k.block i (Nat.lt_of_lt_of_le hi h.size) (fun e => (hA i e).elim hn (by omega))).trans (h.block i hi hn)⟩

structure RepP (F : Fix S) (A : Nat → Prop) (w0 : World) (φ : Nat → Nat → Prop) (σ : Sig) (w : World) (s : AS) : Prop where
  kept : Kept A w0 w
  obj : ∀ id o, s.get id = some o → ∃ b κ, σ id = some (b, κ) ∧ (o.live = true → LR F σ κ o b (φ id) (heapF w)) ∧ (o.own = true → φ id b)
  own : ∀ id o, s.get id = some o → o.own = true → ∀ x, φ id x → A x ∨ w0.heap.size ≤ x
  inj : ∀ i j o p, i ≠ j → s.get i = some o → s.get j = some p → o.own = true → p.own = true → ∀ x, φ i x → φ j x → False
  ro : ∀ id o b κ, s.get id = some o → o.own = false → o.live = true → σ id = some (b, κ) → b < w0.heap.size ∧ ¬ A b
  fresh : ∀ id, s.get id = none → σ id = none

def Rep (F : Fix S) (A : Nat → Prop) (w0 : World) (σ : Sig) (w : World) (s : AS) : Prop := ∃ φ, RepP F A w0 φ σ w s

def Sig.upd (σ : Sig) (id : Nat) (x : Nat × Nat) : Sig := fun j => if j = id then some x else σ j
theorem Sig.le_upd {σ : Sig} {id : Nat} (x : Nat × Nat) (h : σ id = none) : σ.le (σ.upd id x) := by
  intro j y hj
  unfold Sig.upd
  split
  · rename_i e; subst e; rw [h] at hj; cases hj
  · exact hj
theorem Sig.upd_same (σ : Sig) (id : Nat) (x : Nat × Nat) : σ.upd id x id = some x := by simp [Sig.upd]
theorem Sig.upd_ne (σ : Sig) {id j : Nat} (x : Nat × Nat) (h : j ≠ id) : σ.upd id x j = σ j := by simp [Sig.upd, h]

/-- One block has changed, nothing else. -/
structure Upd (w w' : World) (b : Nat) (ob : Obj) : Prop where
  os : w'.os = w.os
  tape : w'.tape = w.tape
  output : w'.output = w.output
  size : w'.heap.size = w.heap.size
  here : w'.heap[b]? = some ob
  other : ∀ k, k ≠ b → w'.heap[k]? = w.heap[k]?

theorem Upd.setRow {w : World} {b : Nat} {old cs : Array Value} {t : TypeId} {fr : Nat × Nat} (h : w.heap[b]? = some (.cells old t fr)) : Upd w (w.setRow b cs) b (.cells cs t fr) :=
  ⟨rfl, rfl, rfl, size_setRow w b cs, setRow_heap w b old cs t fr h, fun k hk => by
    simp only [World.setRow, Array.getElem?_modify]
    rw [if_neg (fun e => hk e.symm)]⟩

theorem Upd.setObj {w : World} {b : Nat} {old ob : Obj} (h : w.heap[b]? = some old) : Upd w { w with heap := w.heap.setIfInBounds b ob } b ob :=
  ⟨rfl, rfl, rfl, by simp, by
    have hlt : b < w.heap.size := (Array.getElem?_eq_some_iff.1 h).1
    simp [hlt], fun k hk => by
    simp [Ne.symm hk]⟩

section
variable {F : Fix S} {A : Nat → Prop} {w0 : World} {σ : Sig} {w : World} {s : AS}

theorem Rep.kept (h : Rep F A w0 σ w s) : Kept A w0 w := h.elim fun _ h => h.kept

/-- The block behind a number that stands for one block. -/
theorem Rep.obj (h : Rep F A w0 σ w s) (id : Nat) (o : AObj) (hg : s.get id = some o) (hp : o.plain = true := by rfl) :
    ∃ b κ, σ id = some (b, κ) ∧ (o.live = true → ∃ ob, w.heap[b]? = some ob ∧ OR F σ κ o ob) := by
  obtain ⟨φ, h⟩ := h
  obtain ⟨b, κ, h1, h2, _⟩ := h.obj id o hg
  exact ⟨b, κ, h1, fun hl => ((h2 hl).plain hp).1⟩
theorem Rep.sig (h : Rep F A w0 σ w s) {id : Nat} {o : AObj} (hg : s.get id = some o) : ∃ b κ, σ id = some (b, κ) := by
  obtain ⟨φ, h⟩ := h
  obtain ⟨b, κ, h1, _⟩ := h.obj id o hg
  exact ⟨b, κ, h1⟩
theorem Rep.fresh (h : Rep F A w0 σ w s) (id : Nat) (hg : s.get id = none) : σ id = none := h.elim fun _ h => h.fresh id hg

theorem Rep.congr {w' : World} (h : Rep F A w0 σ w s) (h1 : w'.os = w.os) (h2 : w'.tape = w.tape) (h3 : w'.output = w.output) (h4 : w'.heap = w.heap) : Rep F A w0 σ w' s := by
  obtain ⟨φ, h⟩ := h
  have hh : heapF w' = heapF w := by unfold heapF; rw [h4]
  exact ⟨φ, ⟨h1.trans h.kept.os, h2.trans h.kept.tape, h3.trans h.kept.output, by rw [h4]; exact h.kept.size, fun k hk hn => by rw [h4]; exact h.kept.block k hk hn⟩,
    by rw [hh]; exact h.obj, h.own, h.inj, h.ro, h.fresh⟩

theorem Rep.drew (h : Rep F A w0 σ w s) : Rep F A w0 σ w.drew s := h.congr rfl rfl rfl rfl

theorem Rep.new {o : AObj} {id : Nat} {s' : AS} (h : Rep F A w0 σ w s) (hn : s.new o = some (id, s')) (ho : o.own = true) {κ : Nat} {ob : Obj}
    (hr : OR F (σ.upd id (w.heap.size, κ)) κ o ob) : σ.le (σ.upd id (w.heap.size, κ)) ∧ Rep F A w0 (σ.upd id (w.heap.size, κ)) (w.alloc ob) s' := by
  obtain ⟨φ, h⟩ := h
  obtain ⟨h0, hg⟩ := AS.get_new hn
  have hle := Sig.le_upd (w.heap.size, κ) (h.fresh _ h0)
  have old : ∀ k, k < w.heap.size → heapF (w.alloc ob) k = heapF w k := fun k hk => Below.heap_alloc w ob k hk
  have lt : ∀ j x, s.get j = some x → x.own = true → ∀ k, φ j k → k < w.heap.size := by
    intro j x hj hx k hk
    obtain ⟨b, κ', hb, hv, _⟩ := h.obj j x hj
    have hl : x.live = true := by cases x <;> first | rfl | cases hx
    exact heapF_lt ((hv hl).at_foot k hk)
  refine ⟨hle, fun j x => if j = id then x = w.heap.size else φ j x, ⟨h.kept.os, h.kept.tape, h.kept.output, by rw [World.size_alloc]; have := h.kept.size; omega, fun k hk hn => ?_⟩, ?_, ?_, ?_, ?_, ?_⟩
  · rw [Below.heap_alloc w ob k (Nat.lt_of_lt_of_le hk h.kept.size)]; exact h.kept.block k hk hn
  · intro j x hj
    rw [hg] at hj
    split at hj
    · rename_i e
      simp only [Option.some.injEq] at hj
      subst hj e
      refine ⟨_, _, Sig.upd_same _ _ _, fun hl => LR.mk (heap_alloc_new w ob) hr (fun x hx => ?_) hl, fun _ => by simp⟩
      simpa using hx
    · rename_i hne
      obtain ⟨b, κ', hb, hv, hf⟩ := h.obj j x hj
      refine ⟨b, κ', hle _ _ hb, fun hx => ?_, fun hx => by simpa [hne] using hf hx⟩
      have hL := (hv hx).mono hle
      simp only [hne, if_false]
      exact hL.same (old _ (heapF_lt hL.at_root)) fun k hk => old k (heapF_lt (hL.at_foot k hk))
  · intro j x hj hx k hk
    rw [hg] at hj
    split at hj
    · rename_i e
      simp only [e, if_true] at hk
      subst hk
      exact .inr h.kept.size
    · rename_i e
      simp only [e, if_false] at hk
      exact h.own j x hj hx k hk
  · intro i j x y hij hi hj hx hy k hki hkj
    rw [hg] at hi hj
    split at hi
    · rename_i e
      subst e
      rw [if_neg (Ne.symm hij)] at hj
      simp only [if_true] at hki
      simp only [Ne.symm hij, if_false] at hkj
      have := lt j y hj hy k hkj
      omega
    · rename_i e
      simp only [e, if_false] at hki
      split at hj
      · rename_i e2
        simp only [e2, if_true] at hkj
        have := lt i x hi hx k hki
        omega
      · rename_i e2
        simp only [e2, if_false] at hkj
        exact h.inj i j x y hij hi hj hx hy k hki hkj
  · intro j x b κ' hj hx hx2 hb
    rw [hg] at hj
    split at hj
    · simp only [Option.some.injEq] at hj; subst hj; rw [ho] at hx; cases hx
    · rename_i e
      rw [Sig.upd_ne _ _ e] at hb
      exact h.ro j x b κ' hj hx hx2 hb
  · intro j hj
    rw [hg] at hj
    split at hj
    · cases hj
    · rename_i e
      rw [Sig.upd_ne _ _ e]
      exact h.fresh j hj

/-- What a change of one block leaves of the others. -/
theorem RepP.others {φ : Nat → Nat → Prop} (h : RepP F A w0 φ σ w s) {id : Nat} {o : AObj} {b κ : Nat} (hg : s.get id = some o) (ho : o.own = true) (hσ : σ id = some (b, κ)) {w' : World} {ob : Obj} (hu : Upd w w' b ob) :
    Kept A w0 w' ∧ ∀ j x, j ≠ id → s.get j = some x → ∃ c κ', σ j = some (c, κ') ∧ (x.live = true → LR F σ κ' x c (φ j) (heapF w')) ∧ (x.own = true → φ j c) := by
  obtain ⟨b', κ', hb', _, hf⟩ := h.obj id o hg
  rw [hσ] at hb'
  simp only [Option.some.injEq, Prod.mk.injEq] at hb'
  obtain ⟨rfl, rfl⟩ := hb'
  have hmine := hf ho
  have hA := h.own id o hg ho b hmine
  refine ⟨⟨hu.os.trans h.kept.os, hu.tape.trans h.kept.tape, hu.output.trans h.kept.output, by rw [hu.size]; exact h.kept.size, fun k hk hn => ?_⟩, fun j x hj hx => ?_⟩
  · rw [hu.other k (by rintro rfl; exact hA.elim hn (by omega))]; exact h.kept.block k hk hn
  · obtain ⟨c, κ'', hc, hv, hf2⟩ := h.obj j x hx
    refine ⟨c, κ'', hc, fun hl => ?_, hf2⟩
    have hL := hv hl
    by_cases hxo : x.own = true
    · have hne : ∀ k, φ j k → k ≠ b := by rintro k hk rfl; exact h.inj j id x o hj hx hg hxo ho k hk hmine
      exact hL.same (hu.other c (hne c (hf2 hxo))) fun k hk => hu.other k (hne k hk)
    · have hro := h.ro j x c κ'' hx (by simpa using hxo) hl hc
      have hcb : c ≠ b := by rintro rfl; exact hA.elim hro.2 (by omega)
      have hpl : x.plain = true := by cases x <;> first | rfl | exact absurd rfl hxo
      obtain ⟨_, hone⟩ := hL.plain hpl
      exact hL.same (hu.other c hcb) fun k hk => by rw [hone k hk]; exact hu.other c hcb

theorem Rep.put {o o' : AObj} {id : Nat} {s' : AS} {b κ : Nat} (h : Rep F A w0 σ w s) (hg : s.get id = some o) (ho : o.own = true) (hpl : o.plain = true) (hp : s.put id o' = some s') (ho' : o'.own = true)
    (hσ : σ id = some (b, κ)) {w' : World} {ob : Obj} (hu : Upd w w' b ob) (hr : OR F σ κ o' ob) : Rep F A w0 σ w' s' := by
  obtain ⟨φ, h⟩ := h
  have hgp := AS.get_put hp
  obtain ⟨hk, hoth⟩ := h.others hg ho hσ hu
  obtain ⟨b', κ', hb', hv, hf⟩ := h.obj id o hg
  rw [hσ] at hb'
  simp only [Option.some.injEq, Prod.mk.injEq] at hb'
  obtain ⟨rfl, rfl⟩ := hb'
  have hlo : o.live = true := by cases o <;> first | rfl | cases ho
  obtain ⟨_, hone⟩ := (hv hlo).plain hpl
  refine ⟨φ, hk, ?_, ?_, ?_, ?_, ?_⟩
  · intro j x hj
    rw [hgp] at hj
    split at hj
    · rename_i e
      simp only [Option.some.injEq] at hj
      subst hj e
      exact ⟨b, κ, hσ, fun hl => LR.mk hu.here hr hone hl, fun _ => hf ho⟩
    · rename_i e
      exact hoth j x e hj
  · intro j x hj hx
    rw [hgp] at hj
    split at hj
    · rename_i e
      subst e
      exact h.own j o hg ho
    · exact h.own j x hj hx
  · intro i j x y hij hi hj hx hy
    rw [hgp] at hi hj
    split at hi
    · rename_i e
      subst e
      rw [if_neg (Ne.symm hij)] at hj
      exact h.inj i j o y hij hg hj ho hy
    · split at hj
      · rename_i e2
        subst e2
        exact h.inj i j x o hij hi hg hx ho
      · exact h.inj i j x y hij hi hj hx hy
  · intro j x c κ' hj hx hx2 hc
    rw [hgp] at hj
    split at hj
    · simp only [Option.some.injEq] at hj; subst hj; rw [ho'] at hx; cases hx
    · exact h.ro j x c κ' hj hx hx2 hc
  · intro j hj
    rw [hgp] at hj
    split at hj
    · cases hj
    · exact h.fresh j hj

/-- A block goes over to a new number (an append that may have stayed in place): the old number is dead. -/
theorem Rep.rebind {o o' : AObj} {id id' : Nat} {s1 s' : AS} {b κ : Nat} (h : Rep F A w0 σ w s) (hg : s.get id = some o) (ho : o.own = true) (_hpl : o.plain = true) (hp : s.put id .dead = some s1) (hn : s1.new o' = some (id', s'))
    (ho' : o'.own = true) (hσ : σ id = some (b, κ)) {w' : World} {ob : Obj} (hu : Upd w w' b ob) (κ' : Nat) (hr : OR F (σ.upd id' (b, κ')) κ' o' ob) :
    σ.le (σ.upd id' (b, κ')) ∧ Rep F A w0 (σ.upd id' (b, κ')) w' s' := by
  obtain ⟨φ, h⟩ := h
  have hgp := AS.get_put hp
  obtain ⟨h0, hgn⟩ := AS.get_new hn
  have hne : id' ≠ id := by
    rintro rfl
    rw [hgp] at h0
    simp at h0
  have h0' : s.get id' = none := by rw [hgp, if_neg hne] at h0; exact h0
  have hle := Sig.le_upd (b, κ') (h.fresh _ h0')
  have key : ∀ j, s'.get j = if j = id' then some o' else if j = id then some .dead else s.get j := by
    intro j; rw [hgn, hgp]
  obtain ⟨hk, hoth⟩ := h.others hg ho hσ hu
  obtain ⟨b', κ2, hb', hv, hf⟩ := h.obj id o hg
  rw [hσ] at hb'
  simp only [Option.some.injEq, Prod.mk.injEq] at hb'
  obtain ⟨rfl, rfl⟩ := hb'
  have hmine := hf ho
  refine ⟨hle, fun j x => if j = id' then x = b else φ j x, hk, ?_, ?_, ?_, ?_, ?_⟩
  · intro j x hj
    rw [key] at hj
    split at hj
    · rename_i e
      simp only [Option.some.injEq] at hj
      subst hj e
      exact ⟨b, κ', Sig.upd_same _ _ _, fun hl => LR.mk hu.here hr (fun x hx => by simpa using hx) hl, fun _ => by simp⟩
    · rename_i e
      split at hj
      · rename_i e2
        simp only [Option.some.injEq] at hj
        subst hj e2
        exact ⟨b, κ, hle _ _ hσ, fun hv => (by cases hv), fun hv => (by cases hv)⟩
      · rename_i e2
        obtain ⟨c, κ2, hc, hv, hf2⟩ := hoth j x e2 hj
        simp only [e, if_false]
        exact ⟨c, κ2, hle _ _ hc, fun hx => (hv hx).mono hle, hf2⟩
  · intro j x hj hx k hk
    rw [key] at hj
    split at hj
    · rename_i e
      simp only [e, if_true] at hk
      subst hk
      exact h.own id o hg ho k hmine
    · rename_i e
      simp only [e, if_false] at hk
      split at hj
      · simp only [Option.some.injEq] at hj; subst hj; cases hx
      · exact h.own j x hj hx k hk
  · intro i j x y hij hi hj hx hy k hki hkj
    rw [key] at hi hj
    split at hi
    · rename_i e
      subst e
      rw [if_neg (Ne.symm hij)] at hj
      simp only [if_true] at hki
      subst hki
      simp only [Ne.symm hij, if_false] at hkj
      split at hj
      · simp only [Option.some.injEq] at hj; subst hj; cases hy
      · rename_i e2
        exact h.inj j id y o e2 hj hg hy ho k hkj hmine
    · rename_i e
      simp only [e, if_false] at hki
      split at hi
      · simp only [Option.some.injEq] at hi; subst hi; cases hx
      · rename_i e2
        split at hj
        · rename_i e3
          simp only [e3, if_true] at hkj
          subst hkj
          exact h.inj i id x o e2 hi hg hx ho k hki hmine
        · rename_i e3
          simp only [e3, if_false] at hkj
          split at hj
          · simp only [Option.some.injEq] at hj; subst hj; cases hy
          · exact h.inj i j x y hij hi hj hx hy k hki hkj
  · intro j x c κ2 hj hx hx2 hc
    rw [key] at hj
    split at hj
    · simp only [Option.some.injEq] at hj; subst hj; rw [ho'] at hx; cases hx
    · rename_i e
      rw [Sig.upd_ne _ _ e] at hc
      split at hj
      · simp only [Option.some.injEq] at hj; subst hj; cases hx2
      · exact h.ro j x c κ2 hj hx hx2 hc
  · intro j hj
    rw [key] at hj
    split at hj
    · cases hj
    · rename_i e
      rw [Sig.upd_ne _ _ e]
      split at hj
      · cases hj
      · exact h.fresh j hj

/-- A number goes dead; memory stays. -/
theorem Rep.kill {o : AObj} {id : Nat} {s' : AS} (h : Rep F A w0 σ w s) (hg : s.get id = some o) (hp : s.put id .dead = some s') : Rep F A w0 σ w s' := by
  obtain ⟨φ, h⟩ := h
  have hgp := AS.get_put hp
  refine ⟨φ, h.kept, ?_, ?_, ?_, ?_, ?_⟩
  · intro j x hj
    rw [hgp] at hj
    split at hj
    · rename_i e
      simp only [Option.some.injEq] at hj
      subst hj e
      obtain ⟨b, κ, hb, _⟩ := h.obj _ o hg
      exact ⟨b, κ, hb, fun hv => (by cases hv), fun hv => (by cases hv)⟩
    · exact h.obj j x hj
  · intro j x hj hx
    rw [hgp] at hj
    split at hj
    · simp only [Option.some.injEq] at hj; subst hj; cases hx
    · exact h.own j x hj hx
  · intro i j x y hij hi hj hx hy
    rw [hgp] at hi hj
    split at hi
    · simp only [Option.some.injEq] at hi; subst hi; cases hx
    · split at hj
      · simp only [Option.some.injEq] at hj; subst hj; cases hy
      · exact h.inj i j x y hij hi hj hx hy
  · intro j x c κ' hj hx hx2 hc
    rw [hgp] at hj
    split at hj
    · simp only [Option.some.injEq] at hj; subst hj; cases hx2
    · exact h.ro j x c κ' hj hx hx2 hc
  · intro j hj
    rw [hgp] at hj
    split at hj
    · cases hj
    · exact h.fresh j hj
end
end Go.Sy
