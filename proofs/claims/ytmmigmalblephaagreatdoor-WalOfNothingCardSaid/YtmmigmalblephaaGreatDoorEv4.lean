/- append: the evaluator's and the model's agree, whether the row had room or not. Conditions: none. -/
import Derived.Test.YtmmigmalblephaaGreatDoorEv3
namespace Go.Sx
open Go.RowKit
noncomputable section

def byteA (b : UInt8) : AV := .int .u8 (.lit b.toNat)

/-- The cells behind a slice's first n elements. -/
def sliceCells (s : AS) (id off m : Nat) : Option (List AV) :=
  match s.get id with
  | some o =>
    match o.vals with
    | some vs => if off + m ≤ vs.length then some ((vs.drop off).take m) else none
    | none => none
  | none => none

section
variable {F : Fix} {B : Nat} {w0 : World} {σ : Sig} {w : World} {s : AS} {P : Program}

theorem sliceCells_ok (h : Rep F B w0 σ w s) {id off m : Nat} {cs : List AV} (he : sliceCells s id off m = some cs) :
    ∃ b κ l, σ id = some (b, κ) ∧ VRs F σ cs l ∧ l.length = m ∧ ∀ j v, l[j]? = some v → w.cell? ((⟨b, off, none⟩ : Addr).add j) = some v := by
  unfold sliceCells at he
  split at he
  · rename_i o ho
    split at he
    · rename_i vs hvs
      split at he
      · rename_i hle
        simp only [Option.some.injEq] at he
        subst he
        obtain ⟨b, κ, arr, e, fr, hb, hblk, hr⟩ := h.vals ho hvs
        refine ⟨b, κ, _, hb, (hr.drop off).take m, ?_, cells_of_take hblk⟩
        have := hr.length
        simp only [List.length_take, List.length_drop] at this ⊢
        omega
      · cases he
    · cases he
  · cases he

/-- What is appended: cells, how many elements; or a named row of bytes. -/
inductive Src where
  | cells (cs : List AV) (n : Nat)
  | data (d : Nat)

def srcOf (s : AS) (size : Nat) : AV → Option Src
  | .nilsl => some (.cells [] 0)
  | .sl id off len _ => match sliceCells s id off (len * size) with
    | some cs => some (.cells cs len)
    | none => none
  | .dsl id off d _ =>
    match s.get id with
    | some (.data d' _ off') => if d' = d ∧ off' = off ∧ size = 1 then some (.data d) else none
    | _ => none
  | .arg id d =>
    match s.get id with
    | some (.rdata d') => if d' = d ∧ size = 1 then some (.data d) else none
    | _ => none
  | .argz => some (.cells [] 0)
  | _ => none

/-- What a source comes to in the model. -/
def Src.to (F : Fix) (σ : Sig) (size : Nat) : Src → Nat → List Value → Prop
  | .cells cs n, m, l => m = n ∧ VRs F σ cs l
  | .data d, m, l => m = (F.δ d).length ∧ l = (F.δ d).map byteV ∧ size = 1

theorem src_row {b off d size : Nat} {arr : Array Value} {e : TypeId} {fr : Nat × Nat} (hblk : w.heap[b]? = some (.cells arr e fr))
    (htake : (arr.toList.drop off).take (F.δ d).length = (F.δ d).map byteV) (hsz : size = 1) (c : Nat) :
    ∃ m l, (Src.data d).to F σ size m l ∧ l.length = m * size ∧ (∀ u ∈ l, Src.data d = .cells [] 0 ∨ True) ∧
      ((Value.slice (some ⟨b, off, none⟩) (F.δ d).length c = .slice none 0 0 ∧ m = 0) ∨
        ∃ a c', Value.slice (some ⟨b, off, none⟩) (F.δ d).length c = .slice (some a) m c' ∧ ∀ j u, l[j]? = some u → w.cell? (a.add j) = some u) := by
  refine ⟨_, _, ⟨rfl, rfl, hsz⟩, by simp [hsz], fun _ _ => .inr trivial, .inr ⟨_, _, rfl, ?_⟩⟩
  intro j u hj
  rw [← htake] at hj
  rw [Addr.add_lit, cell_of_row w b (off + j) arr e fr hblk]
  simp only [List.getElem?_take, List.getElem?_drop] at hj
  split at hj
  · simpa using hj
  · cases hj

theorem srcOf_ok (h : Rep F B w0 σ w s) {size : Nat} {x : AV} {src : Src} (he : srcOf s size x = some src) {v : Value} (hx : VR F σ x v) :
    ∃ m l, src.to F σ size m l ∧ l.length = m * size ∧ (∀ u ∈ l, src = .cells [] 0 ∨ True) ∧
      ((v = .slice none 0 0 ∧ m = 0) ∨ ∃ a c, v = .slice (some a) m c ∧ ∀ j u, l[j]? = some u → w.cell? (a.add j) = some u) := by
  unfold srcOf at he
  split at he
  · simp only [Option.some.injEq] at he
    subst he
    simp only [VR] at hx
    subst hx
    exact ⟨0, [], ⟨rfl, by simp [VRs]⟩, by simp, fun _ _ => .inr trivial, .inl ⟨rfl, rfl⟩⟩
  · rename_i id off len cap
    split at he
    · rename_i cs hcs
      simp only [Option.some.injEq] at he
      subst he
      obtain ⟨b, κ, l, hb, hr, hl, hc⟩ := sliceCells_ok h hcs
      simp only [VR] at hx
      obtain ⟨b', κ', hb', rfl⟩ := hx
      rw [hb] at hb'
      simp only [Option.some.injEq, Prod.mk.injEq] at hb'
      obtain ⟨rfl, rfl⟩ := hb'
      exact ⟨len, l, ⟨rfl, hr⟩, hl, fun _ _ => .inr trivial, .inr ⟨_, _, rfl, hc⟩⟩
    · cases he
  · rename_i id off d cap
    simp only [VR] at hx
    obtain ⟨b, κ, hb, rfl⟩ := hx
    split at he
    · rename_i d' e' off' ho
      split at he
      · rename_i hc
        obtain ⟨rfl, rfl, h3⟩ := hc
        simp only [Option.some.injEq] at he
        subst he
        obtain ⟨b', κ', hb', hl⟩ := h.obj id _ ho
        rw [hb] at hb'
        simp only [Option.some.injEq, Prod.mk.injEq] at hb'
        obtain ⟨rfl, rfl⟩ := hb'
        obtain ⟨ob, hob, arr, ht, rfl, _⟩ := hl rfl
        exact src_row hob ht h3 _
      · cases he
    · cases he
  · rename_i id d
    simp only [VR] at hx
    obtain ⟨b, κ, hb, c, rfl⟩ := hx
    split at he
    · rename_i d' ho
      split at he
      · rename_i hc
        obtain ⟨rfl, h3⟩ := hc
        simp only [Option.some.injEq] at he
        subst he
        obtain ⟨b', κ', hb', hl⟩ := h.obj id _ ho
        rw [hb] at hb'
        simp only [Option.some.injEq, Prod.mk.injEq] at hb'
        obtain ⟨rfl, rfl⟩ := hb'
        obtain ⟨ob, hob, arr, e, fr, ht, rfl⟩ := hl rfl
        exact src_row hob ht h3 _
      · cases he
    · cases he
  · simp only [Option.some.injEq] at he
    subst he
    simp only [VR] at hx
    obtain ⟨a, c, rfl⟩ := hx
    exact ⟨0, [], ⟨rfl, by simp [VRs]⟩, by simp, fun _ _ => .inr trivial, .inr ⟨a, c, rfl, fun j u hj => by simp at hj⟩⟩
  · cases he

def room (need bytes : Nat) : Bool := need ≤ 4194304 && bytes ≤ 4194304

/-- append of cells to a slice of elements e of n cells, b bytes. -/
def evAppNil (s : AS) (e : TypeId) (n b : Nat) (cs : List AV) (m : Nat) : Option (AV × AS) :=
  if m = 0 then some (.nilsl, s) else
  if room m b then
    match s.new (.row cs e n) with
    | some (id, s') => some (.sl id 0 m (.rest 0), s')
    | none => none
  else none

def evAppLit (s : AS) (e : TypeId) (n b : Nat) (id off len c : Nat) (cs : List AV) (m : Nat) : Option (AV × AS) :=
  if len + m ≤ c then
    if m = 0 then some (.sl id off len (.lit c), s) else
    match s.get id with
    | some o =>
      match o.wvals with
      | some vs =>
        if off + len * n + cs.length ≤ vs.length then
          match s.put id (o.setVals (vs.take (off + len * n) ++ cs ++ vs.drop (off + len * n + cs.length))) with
          | some s' => some (.sl id off (len + m) (.lit c), s')
          | none => none
        else none
      | none => none
    | none => none
  else if room (len + m) b && decide (len ≤ c) then
    match sliceCells s id off (len * n) with
    | some olds =>
      match s.new (.row (olds ++ cs) e n) with
      | some (id', s') => some (.sl id' 0 (len + m) (.rest 0), s')
      | none => none
    | none => none
  else none

def evAppRest (s : AS) (e : TypeId) (n b : Nat) (id len : Nat) (cs : List AV) (m : Nat) : Option (AV × AS) :=
  match s.get id with
  | some (.row vs e' n') =>
    if e' = e ∧ n' = n ∧ vs.length = len * n ∧ room (len + m) b then
      if m = 0 then some (.sl id 0 len (.rest 0), s) else
      match s.put id .dead with
      | some s1 =>
        match s1.new (.row (vs ++ cs) e n) with
        | some (id', s') => some (.sl id' 0 (len + m) (.rest 0), s')
        | none => none
      | none => none
    else none
  | _ => none

def evAppendCells (s : AS) (e : TypeId) (n b : Nat) (x : AV) (cs : List AV) (m : Nat) : Option (AV × AS) :=
  match x with
  | .nilsl => evAppNil s e n b cs m
  | .sl id off len (.lit c) => evAppLit s e n b id off len c cs m
  | .sl id 0 len (.rest 0) => evAppRest s e n b id len cs m
  | _ => none

/-- append of a named row of bytes to an empty slice without room. -/
def evAppendData (s : AS) (e : TypeId) (n b : Nat) (x : AV) (d : Nat) : Option (AV × AS) :=
  match x with
  | .sl id 0 0 (.lit 0) =>
    match s.get id with
    | some (.cells [] e') =>
      if e' = e ∧ n = 1 ∧ b = 1 then
        match s.put id .dead with
        | some s1 =>
          match s1.new (.data d e 0) with
          | some (id', s') => some (.dsl id' 0 d (.rest 0), s')
          | none => none
        | none => none
      else none
    | _ => none
  | _ => none

def evAppend (P : Program) (s : AS) (t1 t2 : TypeId) (x y : AV) : Option (AV × AS) :=
  match P.underlying t1 with
  | some (.slice e) =>
    match sizeT P e, bytesT P e, zeroT P e with
    | some n, some b, some z =>
      if t1 = t2 ∧ z.cellsOf.length = n ∧ 0 < n then
        match srcOf s n y with
        | some (.cells cs m) => if cs.all (·.scalar) then evAppendCells s e n b x cs m else none
        | some (.data d) => evAppendData s e n b x d
        | none => none
      else none
    | _, _, _ => none
  | _ => none

theorem take_append_all (a b c : List Value) (k : Nat) (hk : k = (a ++ b).length) : (a ++ b ++ c).take k = a ++ b := by
  subst hk
  rw [List.take_append_of_le_length (Nat.le_refl _), List.take_length]

/-- The state behind an append that made a new row. -/
theorem grown_ok (h : Rep F B w0 σ w s) {e : TypeId} {n need old : Nat} {z : Value} {id : Nat} {s' : AS} {olds : List AV} {ol : List Value} (hnew : s.new (.row olds e n) = some (id, s'))
    (hr : VRs F σ olds ol) (hlen : ol.length = need * n) (hz : z.cells.size = n) (h63 : need ≤ maxLen) :
    ∃ σ', σ.le σ' ∧ VR F σ' (.sl id 0 need (.rest 0)) (.slice (some ⟨w.heap.size, 0, none⟩) need (grownCap w need old e)) ∧
      Rep F B w0 σ' (w.drew.alloc (.cells (ol.toArray ++ Builtin.zeroCells z.cells (grownCap w need old e - need)) e)) s' := by
  have hge := grownCap_ge w need old e
  have hle0 := Sig.le_upd (w.drew.heap.size, grownCap w need old e) (h.drew.fresh _ (AS.get_new hnew).1)
  obtain ⟨hle, hrep⟩ := h.drew.new hnew rfl (κ := grownCap w need old e) (ob := .cells (ol.toArray ++ Builtin.zeroCells z.cells (grownCap w need old e - need)) e)
    ⟨_, by
      have : olds.length = ol.length := hr.length.symm
      rw [this]
      simpa using hr.mono hle0, rfl, by
      simp only [Array.size_append, List.size_toArray, size_zeroCells, hz, hlen, ← Nat.add_mul]
      congr 1; omega, grownCap_le_maxLen w need old e h63⟩
  refine ⟨_, hle, ?_, hrep⟩
  simp only [VR, CapE.val]
  exact ⟨_, _, Sig.upd_same _ _ _, rfl⟩

theorem run_append_in {t ty e : TypeId} {i : TypeInfo} (ht : P.underlying t = some (.slice e)) (hi : P.info? e = some i) (a : Addr) (sLen sCap : Nat) (ya : Addr) (m c : Nat) (news : List Value)
    (hl : news.length = m * i.size) (hnews : ∀ j u, news[j]? = some u → w.cell? (ya.add j) = some u) {w' : World} (hst : (storeCells (a.add (sLen * i.size)) news).run P w = .ok () w') (hroom : sLen + m ≤ sCap) :
    (Builtin.append_ #[t, t] ty #[.slice (some a) sLen sCap, .slice (some ya) m c]).run P w = .ok (.slice (some a) (sLen + m) sCap) w' := by
  have hf := run_firstCells_some (P := P) w i.size m ya m c news hl hnews
  simp [Builtin.append_, run_underlying ht, sizeOf, typeInfo, hi, Builtin.lenOf, hroom, hf, hst]

theorem run_append_none {t ty e : TypeId} {i : TypeInfo} (ht : P.underlying t = some (.slice e)) (hi : P.info? e = some i) (base : Option Addr) (sLen sCap : Nat) (y : Value)
    (hy : y = .slice none 0 0 ∨ ∃ a c, y = .slice (some a) 0 c) (hroom : sLen ≤ sCap) :
    (Builtin.append_ #[t, t] ty #[.slice base sLen sCap, y]).run P w = .ok (.slice base sLen sCap) w := by
  rcases hy with rfl | ⟨a, c, rfl⟩ <;> cases base <;>
    simp [Builtin.append_, run_underlying ht, sizeOf, typeInfo, hi, Builtin.lenOf, hroom, Builtin.firstCells, loadCells, loadCellsFrom, storeCells]


/-- What is known of the element's type. -/
structure AppCtx (P : Program) (t e : TypeId) (it : TypeInfo) (zv : Value) : Prop where
  hu : P.underlying t = some (.slice e)
  hit : P.info? e = some it
  hz : it.zero = some zv
  hzs : zv.cells.size = it.size
  pos : 0 < it.size

def SrcAt (w : World) (vy : Value) (m : Nat) (l : List Value) : Prop :=
  (vy = .slice none 0 0 ∧ m = 0) ∨ ∃ a c, vy = .slice (some a) m c ∧ ∀ j u, l[j]? = some u → w.cell? (a.add j) = some u

theorem SrcAt.zero {vy : Value} {l : List Value} (h : SrcAt w vy 0 l) : vy = .slice none 0 0 ∨ ∃ a c, vy = .slice (some a) 0 c := by
  rcases h with ⟨h1, _⟩ | ⟨a, c, h1, _⟩
  · exact .inl h1
  · exact .inr ⟨a, c, h1⟩
theorem SrcAt.pos {vy : Value} {m : Nat} {l : List Value} (h : SrcAt w vy m l) (hm : m ≠ 0) : ∃ a c, vy = .slice (some a) m c ∧ ∀ j u, l[j]? = some u → w.cell? (a.add j) = some u := by
  rcases h with ⟨_, h1⟩ | h1
  · exact absurd h1 hm
  · exact h1

section
variable {t e ty : TypeId} {it : TypeInfo} {zv : Value}

theorem appNil_ok (h : Rep F B w0 σ w s) (C : AppCtx P t e it zv) {cs : List AV} {m : Nat} {l : List Value} {vy : Value} (hcs : VRs F σ cs l) (hl : l.length = m * it.size) (hvy : SrcAt w vy m l)
    {r : AV} {s' : AS} (he : evAppNil s e it.size it.bytes cs m = some (r, s')) :
    ∃ σ' w' rv, (Builtin.append_ #[t, t] ty #[.slice none 0 0, vy]).run P w = .ok rv w' ∧ VR F σ' r rv ∧ σ.le σ' ∧ Rep F B w0 σ' w' s' := by
  unfold evAppNil at he
  split at he
  · rename_i hm
    subst hm
    simp only [Option.some.injEq, Prod.mk.injEq] at he
    obtain ⟨rfl, rfl⟩ := he
    exact ⟨σ, w, _, run_append_none C.hu C.hit none 0 0 vy hvy.zero (Nat.le_refl _), by simp [VR], Sig.le_refl _, h⟩
  · rename_i hm
    split at he
    · rename_i hroom
      simp only [room, Bool.and_eq_true, decide_eq_true_eq] at hroom
      split at he
      · rename_i id s1 hnew
        simp only [Option.some.injEq, Prod.mk.injEq] at he
        obtain ⟨rfl, rfl⟩ := he
        obtain ⟨a, c, rfl, hcell⟩ := hvy.pos hm
        have hmb : m * it.bytes ≤ 4194304 * 4194304 := Nat.mul_le_mul hroom.1 hroom.2
        obtain ⟨σ', h1, h2, h3⟩ := grown_ok h hnew hcs hl C.hzs (need := m) (old := 0) (by unfold maxLen; omega)
        exact ⟨σ', _, _, run_append_nil w t ty e it zv C.hu C.hit C.hz a m c l hl hcell (by omega) (by omega) (by omega), h2, h1, h3⟩
      · cases he
    · cases he

theorem appLit_ok (h : Rep F B w0 σ w s) (C : AppCtx P t e it zv) {cs : List AV} {m : Nat} {l : List Value} {vy : Value} (hcs : VRs F σ cs l) (hl : l.length = m * it.size) (hvy : SrcAt w vy m l) (hsc : cs.all (·.scalar) = true)
    {id off len c bk κ : Nat} (hb : σ id = some (bk, κ)) {r : AV} {s' : AS} (he : evAppLit s e it.size it.bytes id off len c cs m = some (r, s')) :
    ∃ σ' w' rv, (Builtin.append_ #[t, t] ty #[.slice (some ⟨bk, off, none⟩) len c, vy]).run P w = .ok rv w' ∧ VR F σ' r rv ∧ σ.le σ' ∧ Rep F B w0 σ' w' s' := by
  unfold evAppLit at he
  split at he
  · rename_i hle
    split at he
    · rename_i hm
      subst hm
      simp only [Option.some.injEq, Prod.mk.injEq] at he
      obtain ⟨rfl, rfl⟩ := he
      exact ⟨σ, w, _, run_append_none C.hu C.hit _ len c vy hvy.zero (by omega), by simp only [VR, CapE.val]; exact ⟨bk, κ, hb, rfl⟩, Sig.le_refl _, h⟩
    · rename_i hm
      split at he
      · rename_i o ho
        split at he
        · rename_i vs hvs
          split at he
          · rename_i hfit
            split at he
            · rename_i s1 hp
              simp only [Option.some.injEq, Prod.mk.injEq] at he
              obtain ⟨rfl, rfl⟩ := he
              obtain ⟨a, c', rfl, hcell⟩ := hvy.pos hm
              obtain ⟨w', hst, hrep⟩ := h.splice (P := P) ho hvs hb hcs hsc hfit hp
              refine ⟨σ, w', _, run_append_in C.hu C.hit ⟨bk, off, none⟩ len c a m c' l hl hcell (by rw [Addr.add_lit]; exact hst) hle, ?_, Sig.le_refl _, hrep⟩
              simp only [VR, CapE.val]
              exact ⟨bk, κ, hb, rfl⟩
            · cases he
          · cases he
        · cases he
      · cases he
  · rename_i hle
    split at he
    · rename_i hroom
      simp only [room, Bool.and_eq_true, decide_eq_true_eq] at hroom
      split at he
      · rename_i olds hol
        split at he
        · rename_i id' s1 hnew
          simp only [Option.some.injEq, Prod.mk.injEq] at he
          obtain ⟨rfl, rfl⟩ := he
          obtain ⟨bk2, κ2, ol, hb2, holr, holl, holc⟩ := sliceCells_ok h hol
          rw [hb] at hb2
          simp only [Option.some.injEq, Prod.mk.injEq] at hb2
          obtain ⟨rfl, rfl⟩ := hb2
          have hmb : (len + m) * it.bytes ≤ 4194304 * 4194304 := Nat.mul_le_mul hroom.1.1 hroom.1.2
          obtain ⟨a, c', rfl, hcell⟩ := hvy.pos (by omega)
          obtain ⟨σ', h1, h2, h3⟩ := grown_ok h hnew (holr.append hcs) (by rw [List.length_append, holl, hl, Nat.add_mul]) C.hzs (need := len + m) (old := c) (by unfold maxLen; omega)
          refine ⟨σ', _, _, ?_, h2, h1, h3⟩
          have := run_append_grow w t ty e it zv C.hu C.hit C.hz ⟨bk, off, none⟩ len c ol holl holc a m c' l hl hcell (by omega) (by omega) (growslice_fits (by omega) (by omega))
          simpa using this
        · cases he
      · cases he
    · cases he

theorem appRest_ok (h : Rep F B w0 σ w s) (C : AppCtx P t e it zv) {cs : List AV} {m : Nat} {l : List Value} {vy : Value} (hcs : VRs F σ cs l) (hl : l.length = m * it.size) (hvy : SrcAt w vy m l) (hsc : cs.all (·.scalar) = true)
    {id len bk κ : Nat} (hb : σ id = some (bk, κ)) {r : AV} {s' : AS} (he : evAppRest s e it.size it.bytes id len cs m = some (r, s')) :
    ∃ σ' w' rv, (Builtin.append_ #[t, t] ty #[.slice (some ⟨bk, 0, none⟩) len κ, vy]).run P w = .ok rv w' ∧ VR F σ' r rv ∧ σ.le σ' ∧ Rep F B w0 σ' w' s' := by
  unfold evAppRest at he
  split at he
  · rename_i vs e' n' ho
    split at he
    · rename_i hc
      obtain ⟨rfl, rfl, hlen, hroom⟩ := hc
      simp only [room, Bool.and_eq_true, decide_eq_true_eq] at hroom
      obtain ⟨bk2, κ2, hb2, hlive⟩ := h.obj id _ ho
      rw [hb] at hb2
      simp only [Option.some.injEq, Prod.mk.injEq] at hb2
      obtain ⟨rfl, rfl⟩ := hb2
      obtain ⟨ob, hob, arr, hr, rfl, hsz, hκ⟩ := hlive rfl
      have hvl := hr.length
      simp only [List.length_take, Array.length_toList] at hvl
      have hκlen : len ≤ κ := by
        have : len * it.size ≤ κ * it.size := by omega
        exact Nat.le_of_mul_le_mul_right this C.pos
      split at he
      · rename_i hm
        subst hm
        simp only [Option.some.injEq, Prod.mk.injEq] at he
        obtain ⟨rfl, rfl⟩ := he
        exact ⟨σ, w, _, run_append_none C.hu C.hit _ len κ vy hvy.zero (by omega), by simp only [VR, CapE.val]; exact ⟨bk, κ, hb, rfl⟩, Sig.le_refl _, h⟩
      · rename_i hm
        split at he
        · rename_i s1 hp
          split at he
          · rename_i id' s2 hnew
            simp only [Option.some.injEq, Prod.mk.injEq] at he
            obtain ⟨rfl, rfl⟩ := he
            obtain ⟨a, c', rfl, hcell⟩ := hvy.pos hm
            by_cases hin : len + m ≤ κ
            · have hfit : (len + m) * it.size ≤ κ * it.size := Nat.mul_le_mul_right _ hin
              rw [Nat.add_mul] at hfit
              have hst := run_storeCells_at (P := P) bk (len * it.size) e' l 0 arr w hob (by omega) (hcs.oneCell hsc)
              obtain ⟨hle, hrep⟩ := h.rebind ho rfl hp hnew rfl hb (Upd.setRow (cs := ((arr.toList.take (len * it.size + 0) ++ l ++ arr.toList.drop (len * it.size + 0 + l.length)).toArray)) hob) κ (by
                have hle0 := Sig.le_upd (bk, κ) ((h.kill ho hp).fresh _ (AS.get_new hnew).1)
                refine ⟨_, ?_, rfl, ?_, hκ⟩
                · have e1 : (vs ++ cs).length = (arr.toList.take (len * it.size + 0) ++ l).length := by
                    have := hcs.length
                    simp only [List.length_append, List.length_take, Array.length_toList, Nat.add_zero]; omega
                  simp only []
                  rw [take_append_all _ _ _ _ e1]
                  have := (hr.mono hle0).append (hcs.mono hle0)
                  rw [hlen] at this
                  simpa using this
                · simp only [Nat.add_zero, List.size_toArray, List.length_append, List.length_take, List.length_drop, Array.length_toList]
                  omega)
              refine ⟨_, _, _, run_append_in C.hu C.hit ⟨bk, 0, none⟩ len κ a m c' l hl hcell (by rw [Addr.add_lit, Nat.zero_add]; exact hst) hin, ?_, hle, hrep⟩
              simp only [VR, CapE.val]
              exact ⟨_, _, Sig.upd_same _ _ _, rfl⟩
            · have hk := h.kill ho hp
              have hmb : (len + m) * it.bytes ≤ 4194304 * 4194304 := Nat.mul_le_mul hroom.1 hroom.2
              obtain ⟨σ', h1, h2, h3⟩ := grown_ok hk hnew (hr.append hcs) (by rw [List.length_append, hl, Nat.add_mul, hr.length, hlen]) C.hzs (need := len + m) (old := κ) (by unfold maxLen; omega)
              refine ⟨σ', _, _, ?_, h2, h1, h3⟩
              have holc := cells_of_take (w := w) (n := vs.length) (off := 0) (m := vs.length) hob
              simp only [List.drop_zero, List.take_take, Nat.min_self] at holc
              have := run_append_grow w t ty e' it zv C.hu C.hit C.hz ⟨bk, 0, none⟩ len κ (arr.toList.take vs.length) (by rw [hr.length, hlen]) holc a m c' l hl hcell (by omega) (by omega) (growslice_fits (by omega) (by omega))
              simpa using this
          · cases he
        · cases he
    · cases he
  · cases he

theorem appData_ok (h : Rep F B w0 σ w s) (C : AppCtx P t e it zv) {d : Nat} {vy : Value} (hvy : SrcAt w vy (F.δ d).length ((F.δ d).map byteV))
    {x : AV} {vx : Value} (hx : VR F σ x vx) {r : AV} {s' : AS} (he : evAppendData s e it.size it.bytes x d = some (r, s')) :
    ∃ σ' w' rv, (Builtin.append_ #[t, t] ty #[vx, vy]).run P w = .ok rv w' ∧ VR F σ' r rv ∧ σ.le σ' ∧ Rep F B w0 σ' w' s' := by
  unfold evAppendData at he
  split at he
  · rename_i id
    split at he
    · rename_i e' ho
      split at he
      · rename_i hc
        obtain ⟨rfl, hn1, hb1⟩ := hc
        split at he
        · rename_i s1 hp
          split at he
          · rename_i id' s2 hnew
            simp only [Option.some.injEq, Prod.mk.injEq] at he
            obtain ⟨rfl, rfl⟩ := he
            simp only [VR, CapE.val] at hx
            obtain ⟨bk, κ, hb, rfl⟩ := hx
            obtain ⟨bk2, κ2, hb2, hlive⟩ := h.obj id _ ho
            rw [hb] at hb2
            simp only [Option.some.injEq, Prod.mk.injEq] at hb2
            obtain ⟨rfl, rfl⟩ := hb2
            obtain ⟨ob, hob, ll, hr, rfl⟩ := hlive rfl
            simp only [VRs] at hr
            subst hr
            have hsm := F.small d
            have hzs1 : zv.cells.size = 1 := by rw [C.hzs, hn1]
            by_cases hd : (F.δ d).length = 0
            · have hd' : F.δ d = [] := List.eq_nil_of_length_eq_zero hd
              obtain ⟨hle, hrep⟩ := h.rebind (w' := w) (ob := .cells #[] e') ho rfl hp hnew rfl hb ⟨rfl, rfl, rfl, rfl, by simpa using hob, fun _ _ => rfl⟩ 0
                ⟨#[], by simp [hd'], rfl, rfl, by unfold maxLen; omega, rfl⟩
              rw [hd] at hvy
              refine ⟨_, w, _, run_append_none C.hu C.hit _ 0 0 vy hvy.zero (Nat.le_refl _), ?_, hle, hrep⟩
              simp only [VR, CapE.val, hd]
              exact ⟨_, _, Sig.upd_same _ _ _, rfl⟩
            · obtain ⟨a, c', rfl, hcell⟩ := hvy.pos hd
              have hk := h.kill ho hp
              generalize hcap : grownCap w (F.δ d).length 0 e' = cap
              have hge : (F.δ d).length ≤ cap := by rw [← hcap]; exact grownCap_ge w _ _ _
              have hle0 := Sig.le_upd (w.drew.heap.size, cap) (hk.drew.fresh _ (AS.get_new hnew).1)
              obtain ⟨hle, hrep⟩ := hk.drew.new hnew rfl (κ := cap) (ob := .cells (((F.δ d).map byteV).toArray ++ Builtin.zeroCells zv.cells (cap - (F.δ d).length)) e')
                ⟨_, by
                  simp only [List.drop_zero, Array.toList_append]
                  rw [show (F.δ d).length = ((F.δ d).map byteV).length by simp, List.take_left], rfl, by
                  simp only [Array.size_append, List.size_toArray, List.length_map, size_zeroCells, hzs1]
                  omega, by rw [← hcap]; exact grownCap_le_maxLen w _ 0 e' (by unfold maxLen; omega), rfl⟩
              refine ⟨_, _, .slice (some ⟨w.heap.size, 0, none⟩) (F.δ d).length cap, ?_, ?_, hle, hrep⟩
              · have := run_append_grow w t ty e' it zv C.hu C.hit C.hz ⟨bk, 0, none⟩ 0 0 [] (by simp) (by simp) a (F.δ d).length c' ((F.δ d).map byteV) (by simp [hn1]) hcell (by omega) (by omega) (growslice_fits (by omega) (by rw [hb1]; omega))
                simp only [Nat.zero_add] at this
                rw [this, hcap, Array.empty_append]
              · simp only [VR, CapE.val]
                exact ⟨_, _, Sig.upd_same _ _ _, rfl⟩
          · cases he
        · cases he
      · cases he
    · cases he
  · cases he
end

theorem append_ok (h : Rep F B w0 σ w s) {t1 t2 ty : TypeId} {x y r : AV} {s' : AS} (he : evAppend P s t1 t2 x y = some (r, s')) {vx vy : Value} (hx : VR F σ x vx) (hy : VR F σ y vy) :
    ∃ σ' w' rv, (Builtin.append_ #[t1, t2] ty #[vx, vy]).run P w = .ok rv w' ∧ VR F σ' r rv ∧ σ.le σ' ∧ Rep F B w0 σ' w' s' := by
  unfold evAppend at he
  split at he
  · rename_i e hu
    split at he
    · rename_i n b z hn hb hz
      split at he
      · rename_i hc
        obtain ⟨rfl, hzn, hn0⟩ := hc
        obtain ⟨it, hit, hitn, hitb⟩ : ∃ it, P.info? e = some it ∧ it.size = n ∧ it.bytes = b := by
          unfold sizeT at hn; unfold bytesT at hb
          cases hi : P.info? e with
          | none => simp [hi] at hn
          | some it => simp only [hi, Option.some.injEq] at hn hb; exact ⟨it, rfl, hn, hb⟩
        obtain ⟨zv, hizv, hzv⟩ : ∃ zv, it.zero = some zv ∧ VR F σ z zv := by
          unfold zeroT at hz
          simp only [hit] at hz
          cases hzz : it.zero with
          | none => simp [hzz] at hz
          | some v => simp only [hzz] at hz; exact ⟨v, rfl, ofV_ok hz⟩
        have hzs : zv.cells.size = n := by
          have := hzv.cells.length
          simp only [Array.length_toList] at this
          omega
        subst hitn hitb
        have C : AppCtx P t1 e it zv := ⟨hu, hit, hizv, hzs, hn0⟩
        split at he
        · rename_i cs m hsrc
          obtain ⟨m', l, ⟨hm', hcs⟩, hl, _, hvy⟩ := srcOf_ok h hsrc hy
          subst hm'
          split at he
          · rename_i hsc
            unfold evAppendCells at he
            split at he
            · simp only [VR] at hx
              subst hx
              exact appNil_ok h C hcs hl hvy he
            · simp only [VR, CapE.val] at hx
              obtain ⟨bk, κ, hb', rfl⟩ := hx
              exact appLit_ok h C hcs hl hvy hsc hb' he
            · simp only [VR, CapE.val, Nat.sub_zero] at hx
              obtain ⟨bk, κ, hb', rfl⟩ := hx
              exact appRest_ok h C hcs hl hvy hsc hb' he
            · cases he
          · cases he
        · rename_i d hsrc
          obtain ⟨m', l, ⟨hm', hl', _⟩, hl, _, hvy⟩ := srcOf_ok h hsrc hy
          subst hm' hl'
          exact appData_ok h C hvy hx he
        · cases he
      · cases he
    · cases he
  · cases he
end
end
end Go.Sx
