/- The abstract values and memory of an evaluator for straight Go code, and how they stand to the model's own. Conditions: none. -/
import Derived.WalkKit
namespace Go.Sx
open Go.RowKit

/-- An integer: known, or a named unknown. -/
inductive SI where
  | lit (n : Int)
  | var (i : Nat)

def SI.val (ρ : Nat → Int) : SI → Int
  | .lit n => n
  | .var i => ρ i

/-- A capacity: known, or what is left of a row's own room. -/
inductive CapE where
  | lit (n : Nat)
  | rest (sub : Nat)

def CapE.val (κ : Nat) : CapE → Nat
  | .lit n => n
  | .rest s => κ - s

inductive AV where
  | bool (b : Bool)
  | int (k : IntKind) (e : SI)
  | str (s : List UInt8)
  | nilptr
  | ptr (id off : Nat)
  | gptr (g off : Nat)
  | nilsl
  | sl (id off len : Nat) (cap : CapE)
  | dsl (id off d : Nat) (cap : CapE)
  | arg (id d : Nat)
  | argl (j : Nat)
  | argz
  | nilmap
  | map (id : Nat)
  | func (f : Fn) (first caps : List AV)
  | nilFunc
  | iface (t : TypeId) (v : AV)
  | nilIface
  | agg (cs : List AV)
  | tup (vs : List AV)

/-- Fixed names: the unknown integers, the unknown rows of bytes. -/
structure Fix where
  ρ : Nat → Int
  δ : Nat → List UInt8
  small : ∀ d, (δ d).length ≤ 1099511627776
  len : ∀ d, ρ (1000 + 2 * d) = ((δ d).length : Int)
  sum : ∀ a b, b < 2000 → ρ (1001 + 2 * (2000 * a + b)) = ρ a + ρ b

abbrev Sig := Nat → Option (Nat × Nat)

def Sig.le (σ τ : Sig) : Prop := ∀ id x, σ id = some x → τ id = some x
theorem Sig.le_refl (σ : Sig) : σ.le σ := fun _ _ h => h
theorem Sig.le_trans {a b c : Sig} (h : a.le b) (k : b.le c) : a.le c := fun _ _ e => k _ _ (h _ _ e)

def bytesOf (l : List UInt8) : ByteArray := ⟨l.toArray⟩

section
variable (F : Fix)
mutual
def VR (σ : Sig) : AV → Value → Prop
  | .bool b, v => v = .bool b
  | .int k e, v => v = .int k (e.val F.ρ)
  | .str s, v => v = .string (bytesOf s)
  | .nilptr, v => v = .pointer none
  | .ptr id off, v => ∃ b κ, σ id = some (b, κ) ∧ v = .pointer (some ⟨b, off, none⟩)
  | .gptr g off, v => v = .pointer (some ⟨g, off, none⟩)
  | .nilsl, v => v = .slice none 0 0
  | .sl id off len cap, v => ∃ b κ, σ id = some (b, κ) ∧ v = .slice (some ⟨b, off, none⟩) len (cap.val κ)
  | .dsl id off d cap, v => ∃ b κ, σ id = some (b, κ) ∧ v = .slice (some ⟨b, off, none⟩) (F.δ d).length (cap.val κ)
  | .arg id d, v => ∃ b κ, σ id = some (b, κ) ∧ ∃ c, v = .slice (some ⟨b, κ, none⟩) (F.δ d).length c
  | .argl j, v => ∃ (a : Option Addr) (n c : Nat), F.ρ j = (n : Int) ∧ v = .slice a n c
  | .argz, v => ∃ (a : Addr) (c : Nat), v = .slice (some a) 0 c
  | .nilmap, v => v = .map none
  | .map id, v => ∃ b κ, σ id = some (b, κ) ∧ v = .map (some b)
  | .func f a c, v => ∃ l m, VRs σ a l ∧ VRs σ c m ∧ v = .func f l.toArray m.toArray
  | .nilFunc, v => v = .nilFunc
  | .iface t x, v => ∃ y, VR σ x y ∧ v = .iface t y
  | .nilIface, v => v = .nilIface
  | .agg cs, v => ∃ l, VRs σ cs l ∧ v = .agg l.toArray
  | .tup cs, v => ∃ l, VRs σ cs l ∧ v = .tuple l.toArray
def VRs (σ : Sig) : List AV → List Value → Prop
  | [], l => l = []
  | c :: cs, l => ∃ y ys, VR σ c y ∧ VRs σ cs ys ∧ l = y :: ys
end

variable {F}
mutual
theorem VR.mono {σ τ : Sig} (h : σ.le τ) : ∀ (a : AV) (v : Value), VR F σ a v → VR F τ a v
  | .bool _, _, e | .int _ _, _, e | .str _, _, e | .nilptr, _, e | .gptr _ _, _, e | .nilsl, _, e | .nilmap, _, e | .nilFunc, _, e | .nilIface, _, e => by
    simpa only [VR] using e
  | .argl _, _, e | .argz, _, e => by simpa only [VR] using e
  | .arg _ _, _, e => by
    simp only [VR] at e ⊢
    obtain ⟨b, κ, hs, hv⟩ := e
    exact ⟨b, κ, h _ _ hs, hv⟩
  | .ptr _ _, _, e | .sl _ _ _ _, _, e | .dsl _ _ _ _, _, e | .map _, _, e => by
    simp only [VR] at e ⊢
    obtain ⟨b, κ, hs, hv⟩ := e
    exact ⟨b, κ, h _ _ hs, hv⟩
  | .func _ a c, _, e => by
    simp only [VR] at e ⊢
    obtain ⟨l, m, ha, hc, hv⟩ := e
    exact ⟨l, m, VRs.mono h a l ha, VRs.mono h c m hc, hv⟩
  | .iface _ x, _, e => by
    simp only [VR] at e ⊢
    obtain ⟨y, hy, hv⟩ := e
    exact ⟨y, VR.mono h x y hy, hv⟩
  | .agg cs, _, e => by
    simp only [VR] at e ⊢
    obtain ⟨l, hl, hv⟩ := e
    exact ⟨l, VRs.mono h cs l hl, hv⟩
  | .tup cs, _, e => by
    simp only [VR] at e ⊢
    obtain ⟨l, hl, hv⟩ := e
    exact ⟨l, VRs.mono h cs l hl, hv⟩
theorem VRs.mono {σ τ : Sig} (h : σ.le τ) : ∀ (a : List AV) (v : List Value), VRs F σ a v → VRs F τ a v
  | [], _, e => by simpa only [VRs] using e
  | c :: cs, _, e => by
    simp only [VRs] at e ⊢
    obtain ⟨y, ys, hy, hys, hv⟩ := e
    exact ⟨y, ys, VR.mono h c y hy, VRs.mono h cs ys hys, hv⟩
end

theorem VRs.length {σ : Sig} : ∀ {a : List AV} {v : List Value}, VRs F σ a v → v.length = a.length
  | [], _, e => by simp only [VRs] at e; simp [e]
  | c :: cs, _, e => by
    simp only [VRs] at e
    obtain ⟨y, ys, _, hys, rfl⟩ := e
    simp [VRs.length hys]

theorem VRs.get {σ : Sig} : ∀ {a : List AV} {v : List Value}, VRs F σ a v → ∀ (i : Nat) (x : AV), a[i]? = some x → ∃ y, v[i]? = some y ∧ VR F σ x y
  | [], _, _, i, x, h => by simp at h
  | c :: cs, _, e, i, x, h => by
    simp only [VRs] at e
    obtain ⟨y, ys, hy, hys, rfl⟩ := e
    cases i with
    | zero => simp at h; subst h; exact ⟨y, rfl, hy⟩
    | succ i => simp at h; obtain ⟨z, hz, hr⟩ := VRs.get hys i x h; exact ⟨z, by simpa using hz, hr⟩

theorem VRs.append {σ : Sig} : ∀ {a b : List AV} {v u : List Value}, VRs F σ a v → VRs F σ b u → VRs F σ (a ++ b) (v ++ u)
  | [], _, _, _, e, h => by simp only [VRs] at e; subst e; simpa using h
  | c :: cs, b, _, u, e, h => by
    simp only [VRs, List.cons_append] at e ⊢
    obtain ⟨y, ys, hy, hys, rfl⟩ := e
    exact ⟨y, ys ++ u, hy, VRs.append hys h, by simp⟩

theorem VRs.take {σ : Sig} : ∀ {a : List AV} {v : List Value} (n : Nat), VRs F σ a v → VRs F σ (a.take n) (v.take n)
  | [], _, n, e => by simp only [VRs] at e; subst e; simp [VRs]
  | c :: cs, _, n, e => by
    cases n with
    | zero => simp [VRs]
    | succ n =>
      simp only [VRs, List.take_succ_cons] at e ⊢
      obtain ⟨y, ys, hy, hys, rfl⟩ := e
      exact ⟨y, ys.take n, hy, VRs.take n hys, by simp⟩

theorem VRs.drop {σ : Sig} : ∀ {a : List AV} {v : List Value} (n : Nat), VRs F σ a v → VRs F σ (a.drop n) (v.drop n)
  | [], _, n, e => by simp only [VRs] at e; subst e; simp [VRs]
  | c :: cs, _, n, e => by
    cases n with
    | zero => simpa using e
    | succ n =>
      simp only [VRs] at e
      obtain ⟨y, ys, hy, hys, rfl⟩ := e
      simpa using VRs.drop n hys

theorem VRs.set {σ : Sig} : ∀ {a : List AV} {v : List Value} (i : Nat) {x : AV} {y : Value}, VRs F σ a v → VR F σ x y → VRs F σ (a.set i x) (v.set i y)
  | [], _, i, _, _, e, _ => by simp only [VRs] at e; subst e; simp [VRs]
  | c :: cs, _, i, x, y, e, h => by
    simp only [VRs] at e
    obtain ⟨z, zs, hz, hzs, rfl⟩ := e
    cases i with
    | zero => simp only [List.set_cons_zero, VRs]; exact ⟨y, zs, h, hzs, rfl⟩
    | succ i => simp only [List.set_cons_succ, VRs]; exact ⟨z, zs.set i y, hz, VRs.set i hzs h, rfl⟩

theorem VRs.getD {σ : Sig} {a : List AV} {v : List Value} (h : VRs F σ a v) (i : Nat) : VR F σ (a.getD i (.tup [])) (v.getD i undef) := by
  simp only [List.getD]
  cases hx : a[i]? with
  | none =>
    have hl := h.length
    have : v[i]? = none := by simp only [List.getElem?_eq_none_iff] at hx ⊢; omega
    simp [this, VR, VRs, undef]
  | some x =>
    obtain ⟨y, hy, hr⟩ := h.get i x hx
    simpa [hy] using hr

theorem VRs.replicate {σ : Sig} (n : Nat) {x : AV} {y : Value} (h : VR F σ x y) : VRs F σ (List.replicate n x) (List.replicate n y) := by
  induction n with
  | zero => simp [VRs]
  | succ n ih => simp only [List.replicate_succ, VRs]; exact ⟨y, _, h, ih, rfl⟩
end

/-- Memory: a map from numbers to what stands there. -/
inductive AObj where
  | cells (vs : List AV) (e : TypeId)
  | row (vs : List AV) (e : TypeId) (sz : Nat)
  | data (d : Nat) (e : TypeId) (off : Nat)
  | rdata (d : Nat)
  | fro (vs : List AV) (e : TypeId)
  | map (es : List (AV × AV × Nat)) (clock : Nat)
  | striter (s : List UInt8) (pos : Nat)
  | mapiter (m : Option Nat) (since : Nat) (seen : List Nat) (stepped : Nat)
  | dead

/-- A map from numbers, as a tree: laid out for the kernel's own reckoning. -/
inductive Tr (α : Type) where
  | nil
  | node (l : Tr α) (o : Option α) (r : Tr α)

noncomputable def Tr.get {α : Type} (f : Nat) : Tr α → Nat → Option α :=
  @Nat.rec (fun _ => Tr α → Nat → Option α) (fun _ _ => none) (fun _ ih t k =>
    @Tr.rec α (fun _ => Option α) none (fun l o r _ _ =>
      @Nat.rec (fun _ => Option α) o (fun _ _ =>
        @Nat.rec (fun _ => Option α) (ih r (Nat.pred (Nat.div k 2))) (fun _ _ => ih l (Nat.div k 2)) (Nat.mod k 2)) k) t) f

noncomputable def Tr.set {α : Type} (v : α) (f : Nat) : Tr α → Nat → Tr α :=
  @Nat.rec (fun _ => Tr α → Nat → Tr α) (fun t _ => t) (fun _ ih t k =>
    @Tr.rec α (fun _ => Tr α)
      (@Nat.rec (fun _ => Tr α) (.node .nil (some v) .nil) (fun _ _ =>
        @Nat.rec (fun _ => Tr α) (.node .nil none (ih .nil (Nat.pred (Nat.div k 2)))) (fun _ _ => .node (ih .nil (Nat.div k 2)) none .nil) (Nat.mod k 2)) k)
      (fun l o r _ _ => @Nat.rec (fun _ => Tr α) (.node l (some v) r) (fun _ _ =>
        @Nat.rec (fun _ => Tr α) (.node l o (ih r (Nat.pred (Nat.div k 2)))) (fun _ _ => .node (ih l (Nat.div k 2)) o r) (Nat.mod k 2)) k) t) f

section
variable {α : Type}
theorem Tr.get_nil (f k : Nat) : Tr.get f (.nil : Tr α) k = none := by cases f <;> rfl
theorem Tr.get_zero (f : Nat) (l r : Tr α) (o : Option α) : Tr.get (f + 1) (.node l o r) 0 = o := rfl
theorem Tr.get_odd (f : Nat) (l r : Tr α) (o : Option α) (k : Nat) (h0 : k ≠ 0) (h : k % 2 = 1) : Tr.get (f + 1) (.node l o r) k = Tr.get f l (k / 2) := by
  obtain ⟨j, rfl⟩ := Nat.exists_eq_succ_of_ne_zero h0
  have h' : Nat.mod (j + 1) 2 = 1 := h
  show @Nat.rec (fun _ => Option α) _ _ (Nat.mod (j + 1) 2) = _
  rw [h']
  rfl
theorem Tr.get_even (f : Nat) (l r : Tr α) (o : Option α) (k : Nat) (h0 : k ≠ 0) (h : k % 2 = 0) : Tr.get (f + 1) (.node l o r) k = Tr.get f r (k / 2 - 1) := by
  obtain ⟨j, rfl⟩ := Nat.exists_eq_succ_of_ne_zero h0
  have h' : Nat.mod (j + 1) 2 = 0 := h
  show @Nat.rec (fun _ => Option α) _ _ (Nat.mod (j + 1) 2) = _
  rw [h']
  rfl
theorem Tr.set_zero (v : α) (f : Nat) (l r : Tr α) (o : Option α) : Tr.set v (f + 1) (.node l o r) 0 = .node l (some v) r := rfl
theorem Tr.set_nil_zero (v : α) (f : Nat) : Tr.set v (f + 1) .nil 0 = .node .nil (some v) .nil := rfl
theorem Tr.set_odd (v : α) (f : Nat) (l r : Tr α) (o : Option α) (k : Nat) (h0 : k ≠ 0) (h : k % 2 = 1) : Tr.set v (f + 1) (.node l o r) k = .node (Tr.set v f l (k / 2)) o r := by
  obtain ⟨j, rfl⟩ := Nat.exists_eq_succ_of_ne_zero h0
  have h' : Nat.mod (j + 1) 2 = 1 := h
  show @Nat.rec (fun _ => Tr α) _ _ (Nat.mod (j + 1) 2) = _
  rw [h']
  rfl
theorem Tr.set_even (v : α) (f : Nat) (l r : Tr α) (o : Option α) (k : Nat) (h0 : k ≠ 0) (h : k % 2 = 0) : Tr.set v (f + 1) (.node l o r) k = .node l o (Tr.set v f r (k / 2 - 1)) := by
  obtain ⟨j, rfl⟩ := Nat.exists_eq_succ_of_ne_zero h0
  have h' : Nat.mod (j + 1) 2 = 0 := h
  show @Nat.rec (fun _ => Tr α) _ _ (Nat.mod (j + 1) 2) = _
  rw [h']
  rfl
theorem Tr.set_nil_odd (v : α) (f : Nat) (k : Nat) (h0 : k ≠ 0) (h : k % 2 = 1) : Tr.set v (f + 1) .nil k = .node (Tr.set v f .nil (k / 2)) none .nil := by
  obtain ⟨j, rfl⟩ := Nat.exists_eq_succ_of_ne_zero h0
  have h' : Nat.mod (j + 1) 2 = 1 := h
  show @Nat.rec (fun _ => Tr α) _ _ (Nat.mod (j + 1) 2) = _
  rw [h']
  rfl
theorem Tr.set_nil_even (v : α) (f : Nat) (k : Nat) (h0 : k ≠ 0) (h : k % 2 = 0) : Tr.set v (f + 1) .nil k = .node .nil none (Tr.set v f .nil (k / 2 - 1)) := by
  obtain ⟨j, rfl⟩ := Nat.exists_eq_succ_of_ne_zero h0
  have h' : Nat.mod (j + 1) 2 = 0 := h
  show @Nat.rec (fun _ => Tr α) _ _ (Nat.mod (j + 1) 2) = _
  rw [h']
  rfl

theorem Tr.get_set (v : α) : ∀ (f : Nat) (t : Tr α) (k : Nat), k + 1 < 2 ^ f → ∀ j, Tr.get f (Tr.set v f t k) j = if j = k then some v else Tr.get f t j
  | 0, _, k, h => by simp at h
  | f + 1, t, k, h => by
    have hp : 2 ^ (f + 1) = 2 * 2 ^ f := by rw [Nat.pow_succ, Nat.mul_comm]
    intro j
    have hk1 : ∀ j : Nat, j % 2 = 1 → k % 2 = 1 → (j / 2 = k / 2 ↔ j = k) := by intro j _ _; omega
    have hk2 : ∀ j : Nat, j ≠ 0 → j % 2 = 0 → k ≠ 0 → k % 2 = 0 → (j / 2 - 1 = k / 2 - 1 ↔ j = k) := by intro j _ _ _ _; omega
    have step : ∀ (l r : Tr α) (o : Option α), (∀ i, Tr.get (f + 1) t i = Tr.get (f + 1) (.node l o r) i) →
        Tr.set v (f + 1) t k = Tr.set v (f + 1) (.node l o r) k → Tr.get (f + 1) (Tr.set v (f + 1) t k) j = if j = k then some v else Tr.get (f + 1) t j := by
      intro l r o hg hs
      rw [hs, hg]
      by_cases h0 : k = 0
      · subst h0
        rw [Tr.set_zero]
        by_cases hj : j = 0
        · subst hj; simp [Tr.get_zero]
        · rw [if_neg hj]
          rcases Nat.mod_two_eq_zero_or_one j with h2 | h2
          · rw [Tr.get_even _ _ _ _ _ hj h2, Tr.get_even _ _ _ _ _ hj h2]
          · rw [Tr.get_odd _ _ _ _ _ hj h2, Tr.get_odd _ _ _ _ _ hj h2]
      · rcases Nat.mod_two_eq_zero_or_one k with h1 | h1
        · rw [Tr.set_even _ _ _ _ _ _ h0 h1]
          have ih := Tr.get_set v f r (k / 2 - 1) (by omega)
          by_cases hj : j = 0
          · subst hj; rw [if_neg (Ne.symm h0)]; rfl
          · rcases Nat.mod_two_eq_zero_or_one j with h2 | h2
            · rw [Tr.get_even _ _ _ _ _ hj h2, Tr.get_even _ _ _ _ _ hj h2, ih]
              simp only [hk2 j hj h2 h0 h1]
            · rw [Tr.get_odd _ _ _ _ _ hj h2, Tr.get_odd _ _ _ _ _ hj h2, if_neg (by omega)]
        · rw [Tr.set_odd _ _ _ _ _ _ h0 h1]
          have ih := Tr.get_set v f l (k / 2) (by omega)
          by_cases hj : j = 0
          · subst hj; rw [if_neg (Ne.symm h0)]; rfl
          · rcases Nat.mod_two_eq_zero_or_one j with h2 | h2
            · rw [Tr.get_even _ _ _ _ _ hj h2, Tr.get_even _ _ _ _ _ hj h2, if_neg (by omega)]
            · rw [Tr.get_odd _ _ _ _ _ hj h2, Tr.get_odd _ _ _ _ _ hj h2, ih]
              simp only [hk1 j h2 h1]
    cases t with
    | node l o r => exact step l r o (fun _ => rfl) rfl
    | nil =>
      refine step .nil .nil none (fun i => ?_) ?_
      · rw [Tr.get_nil]
        by_cases hi : i = 0
        · subst hi; rfl
        · rcases Nat.mod_two_eq_zero_or_one i with h2 | h2
          · rw [Tr.get_even _ _ _ _ _ hi h2, Tr.get_nil]
          · rw [Tr.get_odd _ _ _ _ _ hi h2, Tr.get_nil]
      · by_cases h0 : k = 0
        · subst h0; rfl
        · rcases Nat.mod_two_eq_zero_or_one k with h1 | h1
          · rw [Tr.set_nil_even _ _ _ h0 h1, Tr.set_even _ _ _ _ _ _ h0 h1]
          · rw [Tr.set_nil_odd _ _ _ h0 h1, Tr.set_odd _ _ _ _ _ _ h0 h1]
end

/-- A call's frame: a value a slot; what was not written is the empty tuple. -/
abbrev Fr := Tr AV
noncomputable def fget (tm : Fr) (t : Nat) : AV := @Option.rec AV (fun _ => AV) (.tup []) (fun v => v) (Tr.get 12 tm t)
noncomputable def fset (N : Nat) (tm : Fr) (t : Nat) (v : AV) : Fr := @Bool.rec (fun _ => Fr) tm (Tr.set v 12 tm t) (Nat.blt t N)

theorem fget_fset {N : Nat} (hN : N < 4095) (tm : Fr) (t : Nat) (v : AV) (j : Nat) : fget (fset N tm t v) j = if j = t ∧ t < N then v else fget tm j := by
  unfold fset
  cases hb : Nat.blt t N with
  | false =>
    have : ¬ t < N := by intro h; have := Nat.blt_eq.mpr h; rw [hb] at this; cases this
    rw [if_neg (fun h => this h.2)]
  | true =>
    have hlt : t < N := Nat.blt_eq.mp hb
    have hg := Tr.get_set v 12 tm t (by omega) j
    show @Option.rec AV (fun _ => AV) (.tup []) (fun v => v) (Tr.get 12 (Tr.set v 12 tm t) j) = _
    rw [hg]
    by_cases hj : j = t
    · subst hj; simp [hlt]
    · simp only [hj, if_false, false_and]; rfl
end Go.Sx
