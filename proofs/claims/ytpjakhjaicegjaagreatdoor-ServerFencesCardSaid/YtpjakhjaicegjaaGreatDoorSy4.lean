/- append: the evaluator's and the model's agree, whether the row had room or not. Conditions: none. -/
import Derived.Test.YtpjakhjaicegjaaGreatDoorSy3
namespace Go.Sy
open Go.RowKit
variable {S : Sg}
noncomputable section

def byteA (b : UInt8) : AV := .int .u8 (.lit b.toNat)

/-- The cells behind a slice's first n elements. -/
def sliceCells (s : AS) (id off m : Nat) : Option (List AV) :=
  match s.get id with
  | some o =>
    match o.vals with
    | some vs => if off + m ≤ vs.length then some ((vs.drop off).take m) else none
    | none => none
  | none => none

section
variable {F : Fix S} {A : Nat → Prop} {w0 : World} {σ : Sig} {w : World} {s : AS} {P : Program} {R : Facts}

theorem sliceCells_ok (h : Rep F A w0 σ w s) {id off m : Nat} {cs : List AV} (he : sliceCells s id off m = some cs) :
    ∃ b κ l, σ id = some (b, κ) ∧ VRs F σ cs l ∧ l.length = m ∧ ∀ j v, l[j]? = some v → w.cell? ((⟨b, off, none⟩ : Addr).add j) = some v := by
  unfold sliceCells at he
  split at he
  · rename_i o ho
    split at he
    · rename_i vs hvs
      split at he
      · rename_i hle
        simp only [Option.some.injEq] at he
        subst he
        obtain ⟨b, κ, arr, e, fr, hb, hblk, hr⟩ := h.vals ho hvs
        refine ⟨b, κ, _, hb, (hr.drop off).take m, ?_, cells_of_take hblk⟩
        have := hr.length
        simp only [List.length_take, List.length_drop] at this ⊢
        omega
      · cases he
    · cases he
  · cases he

/-- What is appended: cells, how many elements; or a row of bytes. -/
inductive Src where
  | cells (cs : List AV) (n : Nat)
  | data (t : Tm)

/-- The bytes that a view shows. -/
def viewT (R : Facts) (s : AS) (id : Nat) (ro : Bool) (off len : Tm) : Option Tm :=
  match dataOf s id ro with
  | some d => if nn R off && nn R len && leq R (ladd off len) (lenT R d) then some (dsub R d off len) else none
  | none => none

def srcOf (R : Facts) (s : AS) (size : Nat) : AV → Option Src
  | .nilsl => some (.cells [] 0)
  | .sl id off len _ => match sliceCells s id off (len * size) with
    | some cs => some (.cells cs len)
    | none => none
  | .vw id off len _ => if size = 1 then match viewT R s id false off len with
    | some t => some (.data t)
    | none => none
    else none
  | .rv id off len => if size = 1 then match viewT R s id true off len with
    | some t => some (.data t)
    | none => none
    else none
  | .argz => some (.cells [] 0)
  | _ => none

def SrcAt (w : World) (vy : Value) (m : Nat) (l : List Value) : Prop :=
  (vy = .slice none 0 0 ∧ m = 0) ∨ ∃ a c, vy = .slice (some a) m c ∧ ∀ j u, l[j]? = some u → w.cell? (a.add j) = some u

theorem SrcAt.zero {vy : Value} {l : List Value} (h : SrcAt w vy 0 l) : vy = .slice none 0 0 ∨ ∃ a c, vy = .slice (some a) 0 c := by
  rcases h with ⟨h1, _⟩ | ⟨a, c, h1, _⟩
  · exact .inl h1
  · exact .inr ⟨a, c, h1⟩
theorem SrcAt.pos {vy : Value} {m : Nat} {l : List Value} (h : SrcAt w vy m l) (hm : m ≠ 0) : ∃ a c, vy = .slice (some a) m c ∧ ∀ j u, l[j]? = some u → w.cell? (a.add j) = some u := by
  rcases h with ⟨_, h1⟩ | h1
  · exact absurd h1 hm
  · exact h1

/-- A view shows its bytes. -/
theorem viewAt_src {b base κ : Nat} {off len : Tm} {cap : CapV} {v : Value} (h : ViewAt F b base κ off len cap v) {arr : Array Value} {e : TypeId} {fr : Nat × Nat} {l : List UInt8}
    (hblk : w.heap[b]? = some (.cells arr e fr)) (hrow : (arr.toList.drop base).take l.length = l.map byteV) (hle : (off.val F).i + (len.val F).i ≤ (l.length : Int)) :
    ∃ n : Nat, (len.val F).i = (n : Int) ∧ SrcAt w v n ((slice l (off.val F).i.toNat n).map byteV) := by
  obtain ⟨o, n, c, ho, hn, h⟩ := h
  refine ⟨n, hn, .inr ?_⟩
  rw [ho]
  simp only [Int.toNat_natCast]
  have key : ∀ j u, ((slice l o n).map byteV)[j]? = some u → w.cell? ((⟨b, base + o, none⟩ : Addr).add j) = some u := by
    intro j u hj
    rw [List.getElem?_map] at hj
    by_cases hjn : j < n
    · rw [slice_get _ _ _ _ hjn] at hj
      simp only [Option.map_some, Option.some.injEq] at hj
      subst hj
      rw [Addr.add_lit]
      have := byte_at hblk hrow (o := o + j) (by omega)
      rw [← Nat.add_assoc] at this
      exact this
    · rw [List.getElem?_eq_none (by rw [slice_length]; omega)] at hj
      cases hj
  cases cap with
  | rest => exact ⟨_, c, h.1, key⟩
  | tight => exact ⟨_, c, h.1, key⟩
  | any =>
    rcases h with h | ⟨rfl, a, h⟩
    · exact ⟨_, c, h.1, key⟩
    · exact ⟨a, c, h, fun j u hj => by simp [slice_zero] at hj⟩

/-- What a source comes to in the model. -/
def Src.to (F : Fix S) (σ : Sig) (size : Nat) : Src → Nat → List Value → Prop
  | .cells cs n, m, l => m = n ∧ VRs F σ cs l
  | .data t, m, l => m = (t.val F).d.length ∧ l = (t.val F).d.map byteV ∧ size = 1

theorem viewT_ok (hR : FOK F R) (h : Rep F A w0 σ w s) {id : Nat} {ro : Bool} {off len t : Tm} (he : viewT R s id ro off len = some t) {cap : CapV} {b κ κ' : Nat} (hb : σ id = some (b, κ)) {v : Value}
    (hv : ViewAt F b (cond ro κ 0) κ' off len cap v) : SrcAt w v (t.val F).d.length ((t.val F).d.map byteV) ∧ (len.val F).i = ((t.val F).d.length : Int) := by
  unfold viewT at he
  split at he
  · rename_i d hd
    split at he
    · rename_i hc
      simp only [Bool.and_eq_true] at hc
      have h1 := nn_ok hR hc.1.1
      have h2 := nn_ok hR hc.1.2
      have h3 := leq_ok hR hc.2
      rw [ladd_val, lenT_ok hR] at h3
      simp only [Option.some.injEq] at he
      subst he
      obtain ⟨b', κ', arr, e, fr, hb', hblk, hrow⟩ := dataOf_ok h hd
      rw [hb] at hb'
      simp only [Option.some.injEq, Prod.mk.injEq] at hb'
      obtain ⟨rfl, rfl⟩ := hb'
      obtain ⟨n, hn, hs⟩ := viewAt_src hv hblk hrow h3
      rw [dsub_ok hR _ h1 h2, hn, Int.toNat_natCast]
      refine ⟨by rw [slice_length]; exact hs, by rw [slice_length]⟩
    · cases he
  · cases he

theorem srcOf_ok (hR : FOK F R) (h : Rep F A w0 σ w s) {size : Nat} {x : AV} {src : Src} (he : srcOf R s size x = some src) {v : Value} (hx : VR F σ x v) :
    ∃ m l, src.to F σ size m l ∧ l.length = m * size ∧ SrcAt w v m l := by
  unfold srcOf at he
  split at he
  · simp only [Option.some.injEq] at he
    subst he
    simp only [VR] at hx
    subst hx
    exact ⟨0, [], ⟨rfl, by simp [VRs]⟩, by simp, .inl ⟨rfl, rfl⟩⟩
  · rename_i id off len cap
    split at he
    · rename_i cs hcs
      simp only [Option.some.injEq] at he
      subst he
      obtain ⟨b, κ, l, hb, hr, hl, hc⟩ := sliceCells_ok h hcs
      simp only [VR] at hx
      obtain ⟨b', κ', hb', rfl⟩ := hx
      rw [hb] at hb'
      simp only [Option.some.injEq, Prod.mk.injEq] at hb'
      obtain ⟨rfl, rfl⟩ := hb'
      exact ⟨len, l, ⟨rfl, hr⟩, hl, .inr ⟨_, _, rfl, hc⟩⟩
    · cases he
  · rename_i id off len cap
    split at he
    · rename_i hs
      split at he
      · rename_i t ht
        simp only [Option.some.injEq] at he
        subst he
        simp only [VR] at hx
        obtain ⟨b, κ, hb, hv⟩ := hx
        exact ⟨_, _, ⟨rfl, rfl, hs⟩, by simp [hs], (viewT_ok hR h ht hb hv).1⟩
      · cases he
    · cases he
  · rename_i id off len
    split at he
    · rename_i hs
      split at he
      · rename_i t ht
        simp only [Option.some.injEq] at he
        subst he
        simp only [VR] at hx
        obtain ⟨b, κ, hb, hv⟩ := hx
        exact ⟨_, _, ⟨rfl, rfl, hs⟩, by simp [hs], (viewT_ok hR h ht hb (ro := true) hv).1⟩
      · cases he
    · cases he
  · simp only [Option.some.injEq] at he
    subst he
    simp only [VR] at hx
    obtain ⟨a, c, rfl⟩ := hx
    exact ⟨0, [], ⟨rfl, by simp [VRs]⟩, by simp, .inr ⟨a, c, rfl, fun j u hj => by simp at hj⟩⟩
  · cases he

/-- Cells that are bytes, as a row of bytes. -/
def cellsTm (R : Facts) : List AV → Option Tm
  | [] => some (.bs [])
  | .int .u8 e :: l => if (rng R e).within 0 255 then match cellsTm R l with
    | some t => some (dapp (mkOne e) t)
    | none => none
    else none
  | _ => none
theorem cellsTm_ok (hR : FOK F R) : ∀ {cs : List AV} {t : Tm} {l : List Value}, cellsTm R cs = some t → VRs F σ cs l → l = (t.val F).d.map byteV
  | [], t, l, he, h => by
    simp only [cellsTm, Option.some.injEq] at he
    subst he
    simp only [VRs] at h
    subst h
    rfl
  | .int .u8 e :: cs, t, l, he, h => by
    simp only [cellsTm] at he
    split at he
    · rename_i hw
      have h3 := Iv.within_ok hw (rng_ok hR e)
      split at he
      · rename_i t' ht'
        simp only [Option.some.injEq] at he
        subst he
        simp only [VRs, VR] at h
        obtain ⟨y, ys, rfl, hys, rfl⟩ := h
        rw [dapp_ok, mkOne_ok, List.map_append, ← cellsTm_ok hR ht' hys]
        simp only [List.map_cons, List.map_nil, List.cons_append, List.nil_append, List.cons.injEq, and_true, byteV]
        rw [UInt8.toNat_ofNat', Nat.mod_eq_of_lt (by omega)]
        congr 1; omega
      · cases he
    · cases he

def room (need bytes : Nat) : Bool := need ≤ 4194304 && bytes ≤ 4194304

/-- append of cells to a slice of elements e of n cells, b bytes. -/
def evAppNil (s : AS) (e : TypeId) (n b : Nat) (cs : List AV) (m : Nat) : Option (AV × AS) :=
  if m = 0 then some (.nilsl, s) else
  if room m b then
    match s.new (.row cs e n) with
    | some (id, s') => some (.sl id 0 m (.rest 0), s')
    | none => none
  else none

def evAppLit (s : AS) (e : TypeId) (n b : Nat) (id off len c : Nat) (cs : List AV) (m : Nat) : Option (AV × AS) :=
  if len + m ≤ c then
    if m = 0 then some (.sl id off len (.lit c), s) else
    match s.get id with
    | some o =>
      match o.wvals with
      | some vs =>
        if off + len * n + cs.length ≤ vs.length then
          match s.put id (o.setVals (vs.take (off + len * n) ++ cs ++ vs.drop (off + len * n + cs.length))) with
          | some s' => some (.sl id off (len + m) (.lit c), s')
          | none => none
        else none
      | none => none
    | none => none
  else if room (len + m) b && decide (len ≤ c) then
    match sliceCells s id off (len * n) with
    | some olds =>
      match s.new (.row (olds ++ cs) e n) with
      | some (id', s') => some (.sl id' 0 (len + m) (.rest 0), s')
      | none => none
    | none => none
  else none

def evAppRest (s : AS) (e : TypeId) (n b : Nat) (id len : Nat) (cs : List AV) (m : Nat) : Option (AV × AS) :=
  match s.get id with
  | some (.row vs e' n') =>
    if e' = e ∧ n' = n ∧ vs.length = len * n ∧ room (len + m) b then
      if m = 0 then some (.sl id 0 len (.rest 0), s) else
      match s.put id .dead with
      | some s1 =>
        match s1.new (.row (vs ++ cs) e n) with
        | some (id', s') => some (.sl id' 0 (len + m) (.rest 0), s')
        | none => none
      | none => none
    else none
  | _ => none

def evAppendCells (s : AS) (e : TypeId) (n b : Nat) (x : AV) (cs : List AV) (m : Nat) : Option (AV × AS) :=
  match x with
  | .nilsl => evAppNil s e n b cs m
  | .sl id off len (.lit c) => evAppLit s e n b id off len c cs m
  | .sl id 0 len (.rest 0) => evAppRest s e n b id len cs m
  | _ => none

/-- Bytes behind a row of bytes that is shown whole; the old number is dead. -/
def evAppFull (R : Facts) (s : AS) (e : TypeId) (id : Nat) (d t : Tm) : Option (AV × AS) :=
  if leq R (lenT R (dapp d t)) (.lit 1099511627776) then
    match s.put id .dead with
    | some s1 =>
      match s1.new (.data (dapp d t) e) with
      | some (id', s') => some (.vw id' (.lit 0) (lenT R (dapp d t)) .rest, s')
      | none => none
    | none => none
  else none
def evAppNew (R : Facts) (s : AS) (e : TypeId) (t : Tm) : Option (AV × AS) :=
  if leq R (lenT R t) (.lit 1099511627776) then
    match s.new (.data t e) with
    | some (id', s') => some (.vw id' (.lit 0) (lenT R t) .rest, s')
    | none => none
  else none
def evAppD (R : Facts) (s : AS) (e : TypeId) (n b : Nat) (x : AV) (t : Tm) : Option (AV × AS) :=
  if n = 1 ∧ b = 1 then
    match x with
    | .nilsl => if leq R (.lit 1) (lenT R t) then evAppNew R s e t else if isZ R (lenT R t) then some (.nilsl, s) else none
    | .sl id 0 len (.lit c) =>
      match s.get id with
      | some (.cells vs e') => if e' = e ∧ vs.length = len ∧ len = c then match cellsTm R vs with
        | some d => evAppFull R s e id d t
        | none => none
        else none
      | _ => none
    | .sl id 0 len (.rest 0) =>
      match s.get id with
      | some (.row vs e' n') => if e' = e ∧ n' = 1 ∧ vs.length = len then match cellsTm R vs with
        | some d => evAppFull R s e id d t
        | none => none
        else none
      | _ => none
    | .vw id off len .rest =>
      match s.get id with
      | some (.data d e') => if e' = e then if isZ R off && isZ R (lsub len (lenT R d)) then evAppFull R s e id d t else none else none
      | _ => none
    | .vw id off len .tight =>
      if isZ R (lenT R t) then some (.vw id off len .tight, s)
      else if leq R (.lit 1) (lenT R t) then match viewT R s id false off len with
        | some d => evAppNew R s e (dapp d t)
        | none => none
      else none
    | _ => none
  else none

def evAppend (P : Program) (R : Facts) (s : AS) (t1 t2 : TypeId) (x y : AV) : Option (AV × AS) :=
  match P.underlying t1 with
  | some (.slice e) =>
    match sizeT P e, bytesT P e, zeroT P e with
    | some n, some b, some z =>
      if t1 = t2 ∧ z.cellsOf.length = n ∧ 0 < n then
        match srcOf R s n y with
        | some (.cells cs m) => if cs.all (·.scalar) then match x with
          | .vw _ _ _ _ => match cellsTm R cs with
            | some t => evAppD R s e n b x t
            | none => none
          | x => evAppendCells s e n b x cs m
          else none
        | some (.data t) => evAppD R s e n b x t
        | none => none
      else none
    | _, _, _ => none
  | _ => none

theorem take_append_all (a b c : List Value) (k : Nat) (hk : k = (a ++ b).length) : (a ++ b ++ c).take k = a ++ b := by
  subst hk
  rw [List.take_append_of_le_length (Nat.le_refl _), List.take_length]

/-- The state behind an append that made a new row. -/
theorem grown_ok (h : Rep F A w0 σ w s) {e : TypeId} {n need old : Nat} {z : Value} {id : Nat} {s' : AS} {olds : List AV} {ol : List Value} (hnew : s.new (.row olds e n) = some (id, s'))
    (hr : VRs F σ olds ol) (hlen : ol.length = need * n) (hz : z.cells.size = n) (h63 : need ≤ maxLen) :
    ∃ σ', σ.le σ' ∧ VR F σ' (.sl id 0 need (.rest 0)) (.slice (some ⟨w.heap.size, 0, none⟩) need (grownCap w need old e)) ∧
      Rep F A w0 σ' (w.drew.alloc (.cells (ol.toArray ++ Builtin.zeroCells z.cells (grownCap w need old e - need)) e)) s' := by
  have hge := grownCap_ge w need old e
  have hle0 := Sig.le_upd (w.drew.heap.size, grownCap w need old e) (h.drew.fresh _ (AS.get_new hnew).1)
  obtain ⟨hle, hrep⟩ := h.drew.new hnew rfl (κ := grownCap w need old e) (ob := .cells (ol.toArray ++ Builtin.zeroCells z.cells (grownCap w need old e - need)) e)
    ⟨_, by
      have : olds.length = ol.length := hr.length.symm
      rw [this]
      simpa using hr.mono hle0, rfl, by
      simp only [Array.size_append, List.size_toArray, size_zeroCells, hz, hlen, ← Nat.add_mul]
      congr 1; omega, grownCap_le_maxLen w need old e h63⟩
  refine ⟨_, hle, ?_, hrep⟩
  simp only [VR, CapE.val]
  exact ⟨_, _, Sig.upd_same _ _ _, rfl⟩

theorem run_append_in {t ty e : TypeId} {i : TypeInfo} (ht : P.underlying t = some (.slice e)) (hi : P.info? e = some i) (a : Addr) (sLen sCap : Nat) (ya : Addr) (m c : Nat) (news : List Value)
    (hl : news.length = m * i.size) (hnews : ∀ j u, news[j]? = some u → w.cell? (ya.add j) = some u) {w' : World} (hst : (storeCells (a.add (sLen * i.size)) news).run P w = .ok () w') (hroom : sLen + m ≤ sCap) :
    (Builtin.append_ #[t, t] ty #[.slice (some a) sLen sCap, .slice (some ya) m c]).run P w = .ok (.slice (some a) (sLen + m) sCap) w' := by
  have hf := run_firstCells_some (P := P) w i.size m ya m c news hl hnews
  simp [Builtin.append_, run_underlying ht, sizeOf, typeInfo, hi, Builtin.lenOf, hroom, hf, hst]

theorem run_append_none {t ty e : TypeId} {i : TypeInfo} (ht : P.underlying t = some (.slice e)) (hi : P.info? e = some i) (base : Option Addr) (sLen sCap : Nat) (y : Value)
    (hy : y = .slice none 0 0 ∨ ∃ a c, y = .slice (some a) 0 c) (hroom : sLen ≤ sCap) :
    (Builtin.append_ #[t, t] ty #[.slice base sLen sCap, y]).run P w = .ok (.slice base sLen sCap) w := by
  rcases hy with rfl | ⟨a, c, rfl⟩ <;> cases base <;>
    simp [Builtin.append_, run_underlying ht, sizeOf, typeInfo, hi, Builtin.lenOf, hroom, Builtin.firstCells, loadCells, loadCellsFrom, storeCells]


/-- What is known of the element's type. -/
structure AppCtx (P : Program) (t e : TypeId) (it : TypeInfo) (zv : Value) : Prop where
  hu : P.underlying t = some (.slice e)
  hit : P.info? e = some it
  hz : it.zero = some zv
  hzs : zv.cells.size = it.size
  pos : 0 < it.size

section
variable {t e ty : TypeId} {it : TypeInfo} {zv : Value}

theorem appNil_ok (h : Rep F A w0 σ w s) (C : AppCtx P t e it zv) {cs : List AV} {m : Nat} {l : List Value} {vy : Value} (hcs : VRs F σ cs l) (hl : l.length = m * it.size) (hvy : SrcAt w vy m l)
    {r : AV} {s' : AS} (he : evAppNil s e it.size it.bytes cs m = some (r, s')) :
    ∃ σ' w' rv, (Builtin.append_ #[t, t] ty #[.slice none 0 0, vy]).run P w = .ok rv w' ∧ VR F σ' r rv ∧ σ.le σ' ∧ Rep F A w0 σ' w' s' := by
  unfold evAppNil at he
  split at he
  · rename_i hm
    subst hm
    simp only [Option.some.injEq, Prod.mk.injEq] at he
    obtain ⟨rfl, rfl⟩ := he
    exact ⟨σ, w, _, run_append_none C.hu C.hit none 0 0 vy hvy.zero (Nat.le_refl _), by simp [VR], Sig.le_refl _, h⟩
  · rename_i hm
    split at he
    · rename_i hroom
      simp only [room, Bool.and_eq_true, decide_eq_true_eq] at hroom
      split at he
      · rename_i id s1 hnew
        simp only [Option.some.injEq, Prod.mk.injEq] at he
        obtain ⟨rfl, rfl⟩ := he
        obtain ⟨a, c, rfl, hcell⟩ := hvy.pos hm
        have hmb : m * it.bytes ≤ 4194304 * 4194304 := Nat.mul_le_mul hroom.1 hroom.2
        obtain ⟨σ', h1, h2, h3⟩ := grown_ok h hnew hcs hl C.hzs (need := m) (old := 0) (by unfold maxLen; omega)
        exact ⟨σ', _, _, run_append_nil w t ty e it zv C.hu C.hit C.hz a m c l hl hcell (by omega) (by omega) (by omega), h2, h1, h3⟩
      · cases he
    · cases he

theorem appLit_ok (h : Rep F A w0 σ w s) (C : AppCtx P t e it zv) {cs : List AV} {m : Nat} {l : List Value} {vy : Value} (hcs : VRs F σ cs l) (hl : l.length = m * it.size) (hvy : SrcAt w vy m l) (hsc : cs.all (·.scalar) = true)
    {id off len c bk κ : Nat} (hb : σ id = some (bk, κ)) {r : AV} {s' : AS} (he : evAppLit s e it.size it.bytes id off len c cs m = some (r, s')) :
    ∃ σ' w' rv, (Builtin.append_ #[t, t] ty #[.slice (some ⟨bk, off, none⟩) len c, vy]).run P w = .ok rv w' ∧ VR F σ' r rv ∧ σ.le σ' ∧ Rep F A w0 σ' w' s' := by
  unfold evAppLit at he
  split at he
  · rename_i hle
    split at he
    · rename_i hm
      subst hm
      simp only [Option.some.injEq, Prod.mk.injEq] at he
      obtain ⟨rfl, rfl⟩ := he
      exact ⟨σ, w, _, run_append_none C.hu C.hit _ len c vy hvy.zero (by omega), by simp only [VR, CapE.val]; exact ⟨bk, κ, hb, rfl⟩, Sig.le_refl _, h⟩
    · rename_i hm
      split at he
      · rename_i o ho
        split at he
        · rename_i vs hvs
          split at he
          · rename_i hfit
            split at he
            · rename_i s1 hp
              simp only [Option.some.injEq, Prod.mk.injEq] at he
              obtain ⟨rfl, rfl⟩ := he
              obtain ⟨a, c', rfl, hcell⟩ := hvy.pos hm
              obtain ⟨w', hst, hrep⟩ := h.splice (P := P) ho hvs hb hcs hsc hfit hp
              refine ⟨σ, w', _, run_append_in C.hu C.hit ⟨bk, off, none⟩ len c a m c' l hl hcell (by rw [Addr.add_lit]; exact hst) hle, ?_, Sig.le_refl _, hrep⟩
              simp only [VR, CapE.val]
              exact ⟨bk, κ, hb, rfl⟩
            · cases he
          · cases he
        · cases he
      · cases he
  · rename_i hle
    split at he
    · rename_i hroom
      simp only [room, Bool.and_eq_true, decide_eq_true_eq] at hroom
      split at he
      · rename_i olds hol
        split at he
        · rename_i id' s1 hnew
          simp only [Option.some.injEq, Prod.mk.injEq] at he
          obtain ⟨rfl, rfl⟩ := he
          obtain ⟨bk2, κ2, ol, hb2, holr, holl, holc⟩ := sliceCells_ok h hol
          rw [hb] at hb2
          simp only [Option.some.injEq, Prod.mk.injEq] at hb2
          obtain ⟨rfl, rfl⟩ := hb2
          have hmb : (len + m) * it.bytes ≤ 4194304 * 4194304 := Nat.mul_le_mul hroom.1.1 hroom.1.2
          obtain ⟨a, c', rfl, hcell⟩ := hvy.pos (by omega)
          obtain ⟨σ', h1, h2, h3⟩ := grown_ok h hnew (holr.append hcs) (by rw [List.length_append, holl, hl, Nat.add_mul]) C.hzs (need := len + m) (old := c) (by unfold maxLen; omega)
          refine ⟨σ', _, _, ?_, h2, h1, h3⟩
          have := run_append_grow w t ty e it zv C.hu C.hit C.hz ⟨bk, off, none⟩ len c ol holl holc a m c' l hl hcell (by omega) (by omega) (growslice_fits (by omega) (by omega))
          simpa using this
        · cases he
      · cases he
    · cases he

theorem appRest_ok (h : Rep F A w0 σ w s) (C : AppCtx P t e it zv) {cs : List AV} {m : Nat} {l : List Value} {vy : Value} (hcs : VRs F σ cs l) (hl : l.length = m * it.size) (hvy : SrcAt w vy m l) (hsc : cs.all (·.scalar) = true)
    {id len bk κ : Nat} (hb : σ id = some (bk, κ)) {r : AV} {s' : AS} (he : evAppRest s e it.size it.bytes id len cs m = some (r, s')) :
    ∃ σ' w' rv, (Builtin.append_ #[t, t] ty #[.slice (some ⟨bk, 0, none⟩) len κ, vy]).run P w = .ok rv w' ∧ VR F σ' r rv ∧ σ.le σ' ∧ Rep F A w0 σ' w' s' := by
  unfold evAppRest at he
  split at he
  · rename_i vs e' n' ho
    split at he
    · rename_i hc
      obtain ⟨rfl, rfl, hlen, hroom⟩ := hc
      simp only [room, Bool.and_eq_true, decide_eq_true_eq] at hroom
      obtain ⟨bk2, κ2, hb2, hlive⟩ := h.obj id _ ho
      rw [hb] at hb2
      simp only [Option.some.injEq, Prod.mk.injEq] at hb2
      obtain ⟨rfl, rfl⟩ := hb2
      obtain ⟨ob, hob, arr, hr, rfl, hsz, hκ⟩ := hlive rfl
      have hvl := hr.length
      simp only [List.length_take, Array.length_toList] at hvl
      have hκlen : len ≤ κ := by
        have : len * it.size ≤ κ * it.size := by omega
        exact Nat.le_of_mul_le_mul_right this C.pos
      split at he
      · rename_i hm
        subst hm
        simp only [Option.some.injEq, Prod.mk.injEq] at he
        obtain ⟨rfl, rfl⟩ := he
        exact ⟨σ, w, _, run_append_none C.hu C.hit _ len κ vy hvy.zero (by omega), by simp only [VR, CapE.val]; exact ⟨bk, κ, hb, rfl⟩, Sig.le_refl _, h⟩
      · rename_i hm
        split at he
        · rename_i s1 hp
          split at he
          · rename_i id' s2 hnew
            simp only [Option.some.injEq, Prod.mk.injEq] at he
            obtain ⟨rfl, rfl⟩ := he
            obtain ⟨a, c', rfl, hcell⟩ := hvy.pos hm
            by_cases hin : len + m ≤ κ
            · have hfit : (len + m) * it.size ≤ κ * it.size := Nat.mul_le_mul_right _ hin
              rw [Nat.add_mul] at hfit
              have hst := run_storeCells_at (P := P) bk (len * it.size) e' l 0 arr w hob (by omega) (hcs.oneCell hsc)
              obtain ⟨hle, hrep⟩ := h.rebind ho rfl rfl hp hnew rfl hb (Upd.setRow (cs := ((arr.toList.take (len * it.size + 0) ++ l ++ arr.toList.drop (len * it.size + 0 + l.length)).toArray)) hob) κ (by
                have hle0 := Sig.le_upd (bk, κ) ((h.kill ho hp).fresh _ (AS.get_new hnew).1)
                refine ⟨_, ?_, rfl, ?_, hκ⟩
                · have e1 : (vs ++ cs).length = (arr.toList.take (len * it.size + 0) ++ l).length := by
                    have := hcs.length
                    simp only [List.length_append, List.length_take, Array.length_toList, Nat.add_zero]; omega
                  simp only []
                  rw [take_append_all _ _ _ _ e1]
                  have := (hr.mono hle0).append (hcs.mono hle0)
                  rw [hlen] at this
                  simpa using this
                · simp only [Nat.add_zero, List.size_toArray, List.length_append, List.length_take, List.length_drop, Array.length_toList]
                  omega)
              refine ⟨_, _, _, run_append_in C.hu C.hit ⟨bk, 0, none⟩ len κ a m c' l hl hcell (by rw [Addr.add_lit, Nat.zero_add]; exact hst) hin, ?_, hle, hrep⟩
              simp only [VR, CapE.val]
              exact ⟨_, _, Sig.upd_same _ _ _, rfl⟩
            · have hk := h.kill ho hp
              have hmb : (len + m) * it.bytes ≤ 4194304 * 4194304 := Nat.mul_le_mul hroom.1 hroom.2
              obtain ⟨σ', h1, h2, h3⟩ := grown_ok hk hnew (hr.append hcs) (by rw [List.length_append, hl, Nat.add_mul, hr.length, hlen]) C.hzs (need := len + m) (old := κ) (by unfold maxLen; omega)
              refine ⟨σ', _, _, ?_, h2, h1, h3⟩
              have holc := cells_of_take (w := w) (n := vs.length) (off := 0) (m := vs.length) hob
              simp only [List.drop_zero, List.take_take, Nat.min_self] at holc
              have := run_append_grow w t ty e' it zv C.hu C.hit C.hz ⟨bk, 0, none⟩ len κ (arr.toList.take vs.length) (by rw [hr.length, hlen]) holc a m c' l hl hcell (by omega) (by omega) (growslice_fits (by omega) (by omega))
              simpa using this
          · cases he
        · cases he
    · cases he
  · cases he

/-- The state behind an append of bytes that made a new row. -/
theorem bytesGrown_ok (h : Rep F A w0 σ w s) (C : AppCtx P t e it zv) (h1 : it.size = 1) {t' : Tm} {id : Nat} {s' : AS} (hnew : s.new (.data t' e) = some (id, s')) (old : Nat) (hn : (t'.val F).d.length ≤ 1099511627776)
    {len : Tm} (hl : (len.val F).i = ((t'.val F).d.length : Int)) :
    ∃ σ', σ.le σ' ∧ VR F σ' (.vw id (.lit 0) len .rest) (.slice (some ⟨w.heap.size, 0, none⟩) (t'.val F).d.length (grownCap w (t'.val F).d.length old e)) ∧
      Rep F A w0 σ' (w.drew.alloc (.cells (((t'.val F).d.map byteV).toArray ++ Builtin.zeroCells zv.cells (grownCap w (t'.val F).d.length old e - (t'.val F).d.length)) e)) s' := by
  have hge := grownCap_ge w (t'.val F).d.length old e
  have hzs : zv.cells.size = 1 := by rw [C.hzs, h1]
  generalize hcap : grownCap w (t'.val F).d.length old e = cap at *
  obtain ⟨hle, hrep⟩ := h.drew.new hnew rfl (κ := cap) (ob := .cells (((t'.val F).d.map byteV).toArray ++ Builtin.zeroCells zv.cells (cap - (t'.val F).d.length)) e)
    ⟨_, by
      simp only [Array.toList_append]
      rw [show (t'.val F).d.length = ((t'.val F).d.map byteV).length by simp, List.take_left], rfl, by
      simp only [Array.size_append, List.size_toArray, List.length_map, size_zeroCells, hzs]
      omega, by rw [← hcap]; exact grownCap_le_maxLen w _ _ e (by unfold maxLen; omega)⟩
  refine ⟨_, hle, ?_, hrep⟩
  simp only [VR, ViewAt]
  exact ⟨_, _, Sig.upd_same _ _ _, 0, _, cap, rfl, hl, rfl, by omega, by omega⟩

theorem appFull_ok (hR : FOK F R) (h : Rep F A w0 σ w s) (C : AppCtx P t e it zv) (h1 : it.size = 1) (h2 : it.bytes = 1) {d t' : Tm} {vy : Value} (hvy : SrcAt w vy (t'.val F).d.length ((t'.val F).d.map byteV))
    {id : Nat} {o : AObj} (ho : s.get id = some o) (hown : o.own = true) (hpl : o.plain = true) {bk κ κ' : Nat} (hb : σ id = some (bk, κ)) {arr : Array Value} (hob : w.heap[bk]? = some (.cells arr e (0, 0)))
    (hrow : arr.toList.take (d.val F).d.length = (d.val F).d.map byteV) (hsz : arr.size = κ') (hκ : κ' ≤ maxLen) {r : AV} {s' : AS} (he : evAppFull R s e id d t' = some (r, s')) :
    ∃ σ' w' rv, (Builtin.append_ #[t, t] ty #[.slice (some ⟨bk, 0, none⟩) (d.val F).d.length κ', vy]).run P w = .ok rv w' ∧ VR F σ' r rv ∧ σ.le σ' ∧ Rep F A w0 σ' w' s' := by
  unfold evAppFull at he
  split at he
  · rename_i hroom
    have hl := lenT_ok hR (dapp d t')
    have hrm := leq_ok hR hroom
    rw [hl] at hrm
    simp only [Tm.val, Dat.i_int] at hrm
    split at he
    · rename_i s1 hp
      split at he
      · rename_i id' s2 hnew
        simp only [Option.some.injEq, Prod.mk.injEq] at he
        obtain ⟨rfl, rfl⟩ := he
        have hdt : ((dapp d t').val F).d = (d.val F).d ++ (t'.val F).d := dapp_ok d t'
        have hlen : ((dapp d t').val F).d.length = (d.val F).d.length + (t'.val F).d.length := by rw [hdt, List.length_append]
        have hdl : (d.val F).d.length ≤ κ' := by
          have := congrArg List.length hrow
          simp only [List.length_take, Array.length_toList, List.length_map] at this
          omega
        have view : ∀ σ', σ' id' = some (bk, κ') → (d.val F).d.length + (t'.val F).d.length ≤ κ' → VR F σ' (.vw id' (.lit 0) (lenT R (dapp d t')) .rest) (.slice (some ⟨bk, 0, none⟩) ((d.val F).d.length + (t'.val F).d.length) κ') := by
          intro σ' hs hle
          simp only [VR, ViewAt]
          exact ⟨bk, κ', hs, 0, _, κ', rfl, by rw [hl, hlen], rfl, by omega, by omega⟩
        by_cases hz : (t'.val F).d.length = 0
        · have hz' : (t'.val F).d = [] := List.eq_nil_of_length_eq_zero hz
          obtain ⟨hle, hrep⟩ := h.rebind (w' := w) (ob := .cells arr e) ho hown hpl hp hnew rfl hb ⟨rfl, rfl, rfl, rfl, hob, fun _ _ => rfl⟩ κ'
            ⟨arr, by rw [hdt, hz', List.append_nil]; exact hrow, rfl, hsz, hκ⟩
          rw [hz] at hvy
          refine ⟨_, w, _, run_append_none C.hu C.hit _ _ κ' vy hvy.zero hdl, ?_, hle, hrep⟩
          have := view (σ.upd id' (bk, κ')) (Sig.upd_same _ _ _) (by omega)
          rwa [hz, Nat.add_zero] at this
        · obtain ⟨a, c', rfl, hcell⟩ := hvy.pos hz
          by_cases hin : (d.val F).d.length + (t'.val F).d.length ≤ κ'
          · have hst := run_storeCells_at (P := P) bk (d.val F).d.length e ((t'.val F).d.map byteV) 0 arr w hob (by simp; omega) (by intro v hv; simp only [List.mem_map] at hv; obtain ⟨x, _, rfl⟩ := hv; rfl)
            obtain ⟨hle, hrep⟩ := h.rebind ho hown hpl hp hnew rfl hb (Upd.setRow (cs := ((arr.toList.take ((d.val F).d.length + 0) ++ (t'.val F).d.map byteV ++ arr.toList.drop ((d.val F).d.length + 0 + ((t'.val F).d.map byteV).length)).toArray)) hob) κ' (by
                refine ⟨_, ?_, rfl, ?_, hκ⟩
                · simp only [Nat.add_zero]
                  rw [hrow, hdt, ← List.map_append]
                  rw [show ((d.val F).d ++ (t'.val F).d).length = (((d.val F).d ++ (t'.val F).d).map byteV).length by simp, List.take_left]
                · simp only [Nat.add_zero, List.size_toArray, List.length_append, List.length_take, List.length_drop, Array.length_toList, List.length_map]
                  omega)
            refine ⟨_, _, _, run_append_in C.hu C.hit ⟨bk, 0, none⟩ _ κ' a _ c' _ (by simp [h1]) hcell (by rw [Addr.add_lit, Nat.zero_add, h1, Nat.mul_one]; exact hst) hin, ?_, hle, hrep⟩
            exact view (σ.upd id' (bk, κ')) (Sig.upd_same _ _ _) hin
          · have hk := h.kill ho hp
            obtain ⟨σ', g1, g2, g3⟩ := bytesGrown_ok hk C h1 hnew κ' (by omega) hl
            refine ⟨σ', _, _, ?_, g2, g1, g3⟩
            have holc := cells_of_take (w := w) (n := (d.val F).d.length) (off := 0) (m := (d.val F).d.length) hob
            simp only [List.drop_zero, List.take_take, Nat.min_self] at holc
            rw [hrow] at holc
            have := run_append_grow w t ty e it zv C.hu C.hit C.hz ⟨bk, 0, none⟩ (d.val F).d.length κ' ((d.val F).d.map byteV) (by simp [h1]) holc a (t'.val F).d.length c' ((t'.val F).d.map byteV) (by simp [h1]) hcell (by omega) (by omega) (growslice_fits (by omega) (by rw [h2]; omega))
            rw [this, hlen]
            simp [hdt]
      · cases he
    · cases he
  · cases he

theorem appNew_ok (hR : FOK F R) (h : Rep F A w0 σ w s) (C : AppCtx P t e it zv) (h1 : it.size = 1) (h2 : it.bytes = 1) {t' : Tm} {m : Nat} {l : List UInt8} {vy : Value} (hvy : SrcAt w vy m (l.map byteV)) (hl : l.length = m) (hm : m ≠ 0)
    {vx : Value} {ol : List UInt8} (hvx : (vx = .slice none 0 0 ∧ ol = []) ∨ ∃ a, vx = .slice (some a) ol.length ol.length ∧ ∀ j u, (ol.map byteV)[j]? = some u → w.cell? (a.add j) = some u)
    (ht : (t'.val F).d = ol ++ l) {r : AV} {s' : AS} (he : evAppNew R s e t' = some (r, s')) :
    ∃ σ' w' rv, (Builtin.append_ #[t, t] ty #[vx, vy]).run P w = .ok rv w' ∧ VR F σ' r rv ∧ σ.le σ' ∧ Rep F A w0 σ' w' s' := by
  unfold evAppNew at he
  split at he
  · rename_i hroom
    have hlen := lenT_ok hR t'
    have hrm := leq_ok hR hroom
    rw [hlen] at hrm
    simp only [Tm.val, Dat.i_int] at hrm
    split at he
    · rename_i id' s2 hnew
      simp only [Option.some.injEq, Prod.mk.injEq] at he
      obtain ⟨rfl, rfl⟩ := he
      obtain ⟨a, c', rfl, hcell⟩ := hvy.pos hm
      rcases hvx with ⟨rfl, rfl⟩ | ⟨ax, rfl, hxc⟩
      · obtain ⟨σ', g1, g2, g3⟩ := bytesGrown_ok h C h1 hnew 0 (by omega) hlen
        have hml : (t'.val F).d.length = m := by rw [ht, List.nil_append, hl]
        refine ⟨σ', _, _, ?_, g2, g1, g3⟩
        have := run_append_nil w t ty e it zv C.hu C.hit C.hz a m c' (l.map byteV) (by simp [h1, hl]) hcell (by omega) (by omega) (by rw [h2]; omega)
        rw [this, hml, ht, List.nil_append]
      · obtain ⟨σ', g1, g2, g3⟩ := bytesGrown_ok h C h1 hnew ol.length (by omega) hlen
        have hml : (t'.val F).d.length = ol.length + m := by rw [ht, List.length_append, hl]
        refine ⟨σ', _, _, ?_, g2, g1, g3⟩
        have := run_append_grow w t ty e it zv C.hu C.hit C.hz ax ol.length ol.length (ol.map byteV) (by simp [h1]) hxc a m c' (l.map byteV) (by simp [h1, hl]) hcell (by omega) (by omega) (growslice_fits (by omega) (by rw [h2]; omega))
        rw [this, hml, ht]
        simp
    · cases he
  · cases he

theorem appD_ok (hR : FOK F R) (h : Rep F A w0 σ w s) (C : AppCtx P t e it zv) {t' : Tm} {vy : Value} (hvy : SrcAt w vy (t'.val F).d.length ((t'.val F).d.map byteV))
    {x : AV} {vx : Value} (hx : VR F σ x vx) {r : AV} {s' : AS} (he : evAppD R s e it.size it.bytes x t' = some (r, s')) :
    ∃ σ' w' rv, (Builtin.append_ #[t, t] ty #[vx, vy]).run P w = .ok rv w' ∧ VR F σ' r rv ∧ σ.le σ' ∧ Rep F A w0 σ' w' s' := by
  unfold evAppD at he
  have hlt := lenT_ok hR t'
  split at he
  · rename_i h12
    obtain ⟨h1, h2⟩ := h12
    split at he
    · simp only [VR] at hx
      subst hx
      split at he
      · rename_i hm
        have hm' := leq_ok hR hm
        rw [hlt] at hm'
        simp only [Tm.val, Dat.i_int] at hm'
        exact appNew_ok hR h C h1 h2 hvy rfl (by omega) (.inl ⟨rfl, rfl⟩) (by simp) he
      · split at he
        · rename_i hz
          have hz' := isZ_ok hR hz
          rw [hlt] at hz'
          simp only [Option.some.injEq, Prod.mk.injEq] at he
          obtain ⟨rfl, rfl⟩ := he
          have hz0 : (t'.val F).d.length = 0 := by omega
          rw [hz0] at hvy
          exact ⟨σ, w, _, run_append_none C.hu C.hit none 0 0 vy hvy.zero (Nat.le_refl _), by simp [VR], Sig.le_refl _, h⟩
        · cases he
    · rename_i id len c
      split at he
      · rename_i vs e' ho
        split at he
        · rename_i hc
          obtain ⟨rfl, hvl, hlc⟩ := hc
          split at he
          · rename_i d hd
            simp only [VR, CapE.val] at hx
            obtain ⟨bk, κ, hb, rfl⟩ := hx
            obtain ⟨bk2, κ2, hb2, hlive⟩ := h.obj id _ ho
            rw [hb] at hb2
            simp only [Option.some.injEq, Prod.mk.injEq] at hb2
            obtain ⟨rfl, rfl⟩ := hb2
            obtain ⟨ob, hob, ll, hr, rfl⟩ := hlive rfl
            have hll := hr.length
            have hcd := cellsTm_ok hR hd hr
            have hdl : (d.val F).d.length = len := by
              have := congrArg List.length hcd
              simp only [List.length_map] at this
              omega
            have hmx : c ≤ maxLen := by
              unfold evAppFull at he
              split at he
              · rename_i hroom
                have hrm := leq_ok hR hroom
                rw [lenT_ok hR, dapp_ok, List.length_append] at hrm
                simp only [Tm.val, Dat.i_int] at hrm
                unfold maxLen; omega
              · cases he
            have := appFull_ok (ty := ty) hR h C h1 h2 hvy ho rfl rfl hb (κ' := c) hob (by rw [hcd]; simp [List.take_of_length_le]) (by simp; omega) hmx he
            rw [hdl] at this
            exact this
          · cases he
        · cases he
      · cases he
    · rename_i id len
      split at he
      · rename_i vs e' n' ho
        split at he
        · rename_i hc
          obtain ⟨rfl, rfl, hvl⟩ := hc
          split at he
          · rename_i d hd
            simp only [VR, CapE.val, Nat.sub_zero] at hx
            obtain ⟨bk, κ, hb, rfl⟩ := hx
            obtain ⟨bk2, κ2, hb2, hlive⟩ := h.obj id _ ho
            rw [hb] at hb2
            simp only [Option.some.injEq, Prod.mk.injEq] at hb2
            obtain ⟨rfl, rfl⟩ := hb2
            obtain ⟨ob, hob, arr, hr, rfl, hsz, hκ⟩ := hlive rfl
            have hll := hr.length
            have hcd := cellsTm_ok hR hd hr
            have hdl : (d.val F).d.length = vs.length := by
              have := congrArg List.length hcd
              simp only [List.length_map] at this
              omega
            have := appFull_ok (ty := ty) hR h C h1 h2 hvy ho rfl rfl hb (κ' := κ) hob (by rw [hdl, hcd]) (by omega) hκ he
            rw [hdl, hvl] at this
            exact this
          · cases he
        · cases he
      · cases he
    · rename_i id off len
      split at he
      · rename_i d e' ho
        split at he
        · rename_i hee
          subst hee
          split at he
          · rename_i hc
            simp only [Bool.and_eq_true] at hc
            have hz1 := isZ_ok hR hc.1
            have hz2 := isZ_ok hR hc.2
            rw [lsub_val, lenT_ok hR] at hz2
            simp only [VR, ViewAt] at hx
            obtain ⟨bk, κ, hb, o, n, c, ho1, hn1, rfl, rfl, _⟩ := hx
            have ho0 : o = 0 := by omega
            subst ho0
            have hnd : n = (d.val F).d.length := by omega
            subst hnd
            obtain ⟨bk2, κ2, hb2, hlive⟩ := h.obj id _ ho
            rw [hb] at hb2
            simp only [Option.some.injEq, Prod.mk.injEq] at hb2
            obtain ⟨rfl, rfl⟩ := hb2
            obtain ⟨ob, hob, arr, hr, rfl, hsz, hκ⟩ := hlive rfl
            exact appFull_ok hR h C h1 h2 hvy ho rfl rfl hb (κ' := κ) hob hr hsz hκ he
          · cases he
        · cases he
      · cases he
    · rename_i id off len
      split at he
      · rename_i hz
        have hz' := isZ_ok hR hz
        rw [hlt] at hz'
        simp only [Option.some.injEq, Prod.mk.injEq] at he
        obtain ⟨rfl, rfl⟩ := he
        have hz0 : (t'.val F).d.length = 0 := by omega
        rw [hz0] at hvy
        have hx' := hx
        simp only [VR, ViewAt] at hx
        obtain ⟨bk, κ, hb, o, n, c, ho1, hn1, rfl, rfl⟩ := hx
        exact ⟨σ, w, _, run_append_none C.hu C.hit _ c c vy hvy.zero (Nat.le_refl _), hx', Sig.le_refl _, h⟩
      · split at he
        · rename_i hm
          have hm' := leq_ok hR hm
          rw [hlt] at hm'
          simp only [Tm.val, Dat.i_int] at hm'
          split at he
          · rename_i d hd
            simp only [VR] at hx
            obtain ⟨bk, κ, hb, hv⟩ := hx
            obtain ⟨hsrc, hlen⟩ := viewT_ok hR h hd hb (ro := false) hv
            obtain ⟨o, n, c, ho1, hn1, rfl, rfl⟩ := hv
            have hnd : (d.val F).d.length = c := by omega
            refine appNew_ok hR h C h1 h2 hvy rfl (by omega) (ol := (d.val F).d) (.inr ⟨⟨bk, 0 + o, none⟩, by rw [hnd], ?_⟩) (dapp_ok d t') he
            rcases hsrc with ⟨h0, _⟩ | ⟨a, c', h0, hcell⟩
            · cases h0
            · simp only [Value.slice.injEq, Option.some.injEq] at h0
              rw [h0.1]; exact hcell
          · cases he
        · cases he
    · cases he
  · cases he
end

theorem append_ok (hR : FOK F R) (h : Rep F A w0 σ w s) {t1 t2 ty : TypeId} {x y r : AV} {s' : AS} (he : evAppend P R s t1 t2 x y = some (r, s')) {vx vy : Value} (hx : VR F σ x vx) (hy : VR F σ y vy) :
    ∃ σ' w' rv, (Builtin.append_ #[t1, t2] ty #[vx, vy]).run P w = .ok rv w' ∧ VR F σ' r rv ∧ σ.le σ' ∧ Rep F A w0 σ' w' s' := by
  unfold evAppend at he
  split at he
  · rename_i e hu
    split at he
    · rename_i n b z hn hb hz
      split at he
      · rename_i hc
        obtain ⟨rfl, hzn, hn0⟩ := hc
        obtain ⟨it, hit, hitn, hitb⟩ : ∃ it, P.info? e = some it ∧ it.size = n ∧ it.bytes = b := by
          unfold sizeT at hn; unfold bytesT at hb
          cases hi : P.info? e with
          | none => simp [hi] at hn
          | some it => simp only [hi, Option.some.injEq] at hn hb; exact ⟨it, rfl, hn, hb⟩
        obtain ⟨zv, hizv, hzv⟩ : ∃ zv, it.zero = some zv ∧ VR F σ z zv := by
          unfold zeroT at hz
          simp only [hit] at hz
          cases hzz : it.zero with
          | none => simp [hzz] at hz
          | some v => simp only [hzz] at hz; exact ⟨v, rfl, ofV_ok hz⟩
        have hzs : zv.cells.size = n := by
          have := hzv.cells.length
          simp only [Array.length_toList] at this
          omega
        subst hitn hitb
        have C : AppCtx P t1 e it zv := ⟨hu, hit, hizv, hzs, hn0⟩
        split at he
        · rename_i cs m hsrc
          obtain ⟨m', l, ⟨hm', hcs⟩, hl, hvy⟩ := srcOf_ok hR h hsrc hy
          subst hm'
          split at he
          · rename_i hsc
            split at he
            · split at he
              · rename_i t' ht'
                have hlb := cellsTm_ok hR ht' hcs
                subst hlb
                have h1 : it.size = 1 := by
                  unfold evAppD at he
                  split at he
                  · rename_i h12; exact h12.1
                  · cases he
                have hm : m' = (t'.val F).d.length := by simp [h1] at hl; omega
                subst hm
                exact appD_ok hR h C hvy hx he
              · cases he
            · unfold evAppendCells at he
              split at he
              · simp only [VR] at hx
                subst hx
                exact appNil_ok h C hcs hl hvy he
              · simp only [VR, CapE.val] at hx
                obtain ⟨bk, κ, hb', rfl⟩ := hx
                exact appLit_ok h C hcs hl hvy hsc hb' he
              · simp only [VR, CapE.val, Nat.sub_zero] at hx
                obtain ⟨bk, κ, hb', rfl⟩ := hx
                exact appRest_ok h C hcs hl hvy hsc hb' he
              · cases he
          · cases he
        · rename_i d hsrc
          obtain ⟨m', l, ⟨hm', hl', _⟩, hl, hvy⟩ := srcOf_ok hR h hsrc hy
          subst hm' hl'
          exact appD_ok hR h C hvy hx he
        · cases he
      · cases he
    · cases he
  · cases he
end
end
end Go.Sy
