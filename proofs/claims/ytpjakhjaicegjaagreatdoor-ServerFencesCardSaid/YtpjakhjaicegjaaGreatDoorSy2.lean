/- Reading constants, loads, stores, new blocks, building of structs and slices: the evaluator's and the model's agree. Conditions: none. -/
import Derived.Test.YtpjakhjaicegjaaGreatDoorSy1
namespace Go.Sy
open Go.RowKit
variable {S : Sg}
noncomputable section

section consts
def ofV1 : Value → Option AV
  | .bool b => some (.bool b)
  | .int k n => some (.int k (.lit n))
  | .string s => some (.str s.data.toList)
  | .pointer none => some .nilptr
  | .slice none 0 0 => some .nilsl
  | .map none => some .nilmap
  | .nilFunc => some .nilFunc
  | .nilIface => some .nilIface
  | _ => none

def ofVs : List Value → Option (List AV)
  | [] => some []
  | v :: l => match ofV1 v, ofVs l with
    | some a, some as => some (a :: as)
    | _, _ => none

def ofV : Value → Option AV
  | .agg cs => match ofVs cs.toList with
    | some l => some (.agg l)
    | none => none
  | .tuple cs => match ofVs cs.toList with
    | some l => some (.tup l)
    | none => none
  | v => ofV1 v

variable {F : Fix S} {σ : Sig}
theorem ofV1_ok {v : Value} {a : AV} (h : ofV1 v = some a) : VR F σ a v := by
  unfold ofV1 at h
  split at h <;> first
    | (simp only [Option.some.injEq] at h; subst h; simp [VR, Tm.val, bytesOf]; done)
    | cases h

theorem ofVs_ok : ∀ {l : List Value} {as : List AV}, ofVs l = some as → VRs F σ as l
  | [], as, h => by simp [ofVs] at h; subst h; simp [VRs]
  | v :: l, as, h => by
    unfold ofVs at h
    split at h
    · rename_i a as' ha has
      simp only [Option.some.injEq] at h
      subst h
      simp only [VRs]
      exact ⟨v, l, ofV1_ok ha, ofVs_ok has, rfl⟩
    · cases h

theorem ofV_ok {v : Value} {a : AV} (h : ofV v = some a) : VR F σ a v := by
  unfold ofV at h
  split at h
  · split at h
    · rename_i l hl
      simp only [Option.some.injEq] at h
      subst h
      simp only [VR]
      exact ⟨_, ofVs_ok hl, rfl⟩
    · cases h
  · split at h
    · rename_i l hl
      simp only [Option.some.injEq] at h
      subst h
      simp only [VR]
      exact ⟨_, ofVs_ok hl, rfl⟩
    · cases h
  · exact ofV1_ok h
end consts

section types
variable (P : Program)
def sizeT (t : TypeId) : Option Nat := match P.info? t with
  | some i => some i.size
  | none => none
def bytesT (t : TypeId) : Option Nat := match P.info? t with
  | some i => some i.bytes
  | none => none
def isAggT (t : TypeId) : Option Bool := match P.underlying t with
  | some (.struct _) | some (.array _ _) => some true
  | some _ => some false
  | none => none
def zeroT (t : TypeId) : Option AV := match P.info? t with
  | some i => match i.zero with
    | some v => ofV v
    | none => none
  | none => none
variable {P} {F : Fix S} {σ : Sig}
theorem run_sizeT {t : TypeId} {n : Nat} (h : sizeT P t = some n) (w : World) : (sizeOf t).run P w = .ok n w := by
  unfold sizeT at h
  split at h
  · rename_i i hi
    simp only [Option.some.injEq] at h
    subst h
    simp [sizeOf, typeInfo, hi]
  · cases h
theorem run_isAggT {t : TypeId} {b : Bool} (h : isAggT P t = some b) (w : World) : (isAgg t).run P w = .ok b w := by
  unfold isAggT at h
  split at h <;> first
    | (rename_i hd; simp only [Option.some.injEq] at h; subst h; simp [isAgg, run_underlying hd]; done)
    | (rename_i d hd; simp only [Option.some.injEq] at h; subst h; cases d <;> simp_all [isAgg, run_underlying hd]; done)
    | cases h
theorem run_zeroT {t : TypeId} {z : AV} (h : zeroT P t = some z) (w : World) : ∃ v, (zeroValue t).run P w = .ok v w ∧ VR F σ z v := by
  unfold zeroT at h
  split at h
  · rename_i i hi
    split at h
    · rename_i v hv
      exact ⟨v, by simp [zeroValue, typeInfo, hi, hv], ofV_ok h⟩
    · cases h
  · cases h
end types

def AObj.vals : AObj → Option (List AV)
  | .cells vs _ => some vs
  | .row vs _ _ => some vs
  | .fro vs _ => some vs
  | _ => none
def AObj.wvals : AObj → Option (List AV)
  | .cells vs _ => some vs
  | .row vs _ _ => some vs
  | _ => none
def AObj.setVals : AObj → List AV → AObj
  | .cells _ e, vs => .cells vs e
  | .row _ e sz, vs => .row vs e sz
  | o, _ => o
def AV.scalar : AV → Bool
  | .agg _ | .tup _ => false
  | _ => true
def AV.cellsOf : AV → List AV
  | .agg cs => cs
  | v => [v]

section
variable {F : Fix S} {A : Nat → Prop} {w0 : World} {σ : Sig} {w : World} {s : AS} {P : Program} {R : Facts}

theorem ViewAt.slice {b base κ : Nat} {off len : Tm} {cap : CapV} {v : Value} (h : ViewAt F b base κ off len cap v) : ∃ x : Addr × Nat × Nat, v = .slice (some x.1) x.2.1 x.2.2 := by
  obtain ⟨o, n, c, _, _, h⟩ := h
  cases cap with
  | rest => exact ⟨(_, _, _), h.1⟩
  | tight => exact ⟨(_, _, _), h.1⟩
  | any =>
    rcases h with h | ⟨_, a, h⟩
    · exact ⟨(_, _, _), h.1⟩
    · exact ⟨(_, _, _), h⟩
theorem cells_of_one {v : Value} (h : v.oneCell' = true) : v.cells = #[v] := by
  cases v <;> first | rfl | cases h
theorem VR.notAgg {a : AV} {v : Value} (h : VR F σ a v) (ha : ∀ cs, a ≠ .agg cs) : v.cells = #[v] := by
  cases a with
  | agg cs => exact absurd rfl (ha cs)
  | func f a c => simp only [VR] at h; obtain ⟨_, _, _, _, rfl⟩ := h; rfl
  | ptr | sl | map => simp only [VR] at h; obtain ⟨_, _, _, rfl⟩ := h; rfl
  | vw | rv => simp only [VR] at h; obtain ⟨_, _, _, h⟩ := h; obtain ⟨_, h⟩ := h.slice; subst h; rfl
  | opq => simp only [VR] at h; exact cells_of_one h.2
  | dp => simp only [VR] at h; obtain ⟨_, _, _, _, _, rfl⟩ := h; rfl
  | argl => simp only [VR] at h; obtain ⟨_, _, _, _, rfl⟩ := h; rfl
  | argz => simp only [VR] at h; obtain ⟨_, _, rfl⟩ := h; rfl
  | iface | tup => simp only [VR] at h; obtain ⟨_, _, rfl⟩ := h; rfl
  | _ => simp only [VR] at h; subst h; rfl

theorem VR.cells {a : AV} {v : Value} (h : VR F σ a v) : VRs F σ a.cellsOf v.cells.toList := by
  by_cases ha : ∃ cs, a = .agg cs
  · obtain ⟨cs, rfl⟩ := ha
    simp only [VR] at h
    obtain ⟨l, hl, rfl⟩ := h
    simpa [AV.cellsOf, Value.cells] using hl
  · have hn := h.notAgg (fun cs e => ha ⟨cs, e⟩)
    have hc : a.cellsOf = [a] := by cases a <;> first | rfl | exact absurd ⟨_, rfl⟩ ha
    rw [hn, hc]
    simp only [VRs]
    exact ⟨v, [], h, rfl, rfl⟩

theorem VR.oneCell {a : AV} {v : Value} (h : VR F σ a v) (hs : a.scalar = true) : v.oneCell' = true := by
  cases a with
  | agg | tup => cases hs
  | func f a c => simp only [VR] at h; obtain ⟨_, _, _, _, rfl⟩ := h; rfl
  | ptr | sl | map => simp only [VR] at h; obtain ⟨_, _, _, rfl⟩ := h; rfl
  | vw | rv => simp only [VR] at h; obtain ⟨_, _, _, h⟩ := h; obtain ⟨_, h⟩ := h.slice; subst h; rfl
  | opq => simp only [VR] at h; exact h.2
  | dp => simp only [VR] at h; obtain ⟨_, _, _, _, _, rfl⟩ := h; rfl
  | argl => simp only [VR] at h; obtain ⟨_, _, _, _, rfl⟩ := h; rfl
  | argz => simp only [VR] at h; obtain ⟨_, _, rfl⟩ := h; rfl
  | iface => simp only [VR] at h; obtain ⟨_, _, rfl⟩ := h; rfl
  | _ => simp only [VR] at h; subst h; rfl

theorem VRs.oneCell : ∀ {a : List AV} {v : List Value}, VRs F σ a v → (a.all (·.scalar)) = true → ∀ x ∈ v, x.oneCell' = true
  | [], _, h, _ => by simp only [VRs] at h; subst h; simp
  | c :: cs, _, h, hs => by
    simp only [VRs] at h
    obtain ⟨y, ys, hy, hys, rfl⟩ := h
    simp only [List.all_cons, Bool.and_eq_true] at hs
    intro x hx
    rcases List.mem_cons.1 hx with rfl | hx
    · exact hy.oneCell hs.1
    · exact VRs.oneCell hys hs.2 x hx

/-- The block behind a number whose cells are known. -/
theorem Rep.vals (h : Rep F A w0 σ w s) {id : Nat} {o : AObj} {vs : List AV} (hg : s.get id = some o) (hv : o.vals = some vs) :
    ∃ b κ arr e fr, σ id = some (b, κ) ∧ w.heap[b]? = some (.cells arr e fr) ∧ VRs F σ vs (arr.toList.take vs.length) := by
  obtain ⟨b, κ, hb, hl⟩ := h.obj id o hg (by cases o <;> first | rfl | cases hv)
  cases o with
  | cells us e =>
    simp only [AObj.vals, Option.some.injEq] at hv
    subst hv
    obtain ⟨ob, hob, l, hr, rfl⟩ := hl rfl
    exact ⟨b, κ, _, e, _, hb, hob, by simpa [List.take_of_length_le (Nat.le_of_eq hr.length)] using hr⟩
  | row us e sz =>
    simp only [AObj.vals, Option.some.injEq] at hv
    subst hv
    obtain ⟨ob, hob, arr, hr, rfl, _⟩ := hl rfl
    exact ⟨b, κ, arr, e, _, hb, hob, hr⟩
  | fro us e =>
    simp only [AObj.vals, Option.some.injEq] at hv
    subst hv
    obtain ⟨ob, hob, arr, fr, hr, rfl⟩ := hl rfl
    exact ⟨b, κ, arr, e, _, hb, hob, hr⟩
  | _ => cases hv

def dataOf (s : AS) (id : Nat) (ro : Bool) : Option Tm :=
  match s.get id, ro with
  | some (.data t _), false => some t
  | some (.rdata t), true => some t
  | _, _ => none

/-- A table of known numbers. -/
def litsOf (k : IntKind) : List AV → Option (List Int)
  | [] => some []
  | .int k' (.lit n) :: l => if k = k' then match litsOf k l with
    | some ns => some (n :: ns)
    | none => none
    else none
  | _ => none
/-- A table in memory. -/
def tabOf (s : AS) (id : Nat) : Option (IntKind × List Int) :=
  match s.get id with
  | some (.cells (.int k x :: vs) _) => match litsOf k (.int k x :: vs) with
    | some ns => some (k, ns)
    | none => none
  | _ => none
def evLoadTab (P : Program) (R : Facts) (s : AS) (t : TypeId) (id : Nat) (i : Tm) : Option AV :=
  match tabOf s id, isAggT P t with
  | some (k, ns), some false => if nn R i && leq R (ladd i (.lit 1)) (.lit ns.length) then some (.int k (.tab ns i)) else none
  | _, _ => none
def evLoad (P : Program) (R : Facts) (s : AS) (t : TypeId) (a : AV) : Option AV :=
  match a with
  | .dp id i ro =>
    match dataOf s id ro, isAggT P t with
    | some d, some false => if nn R i && leq R (ladd i (.lit 1)) (lenT R d) then some (.int .u8 (dat R d i)) else none
    | _, _ => if ro then none else evLoadTab P R s t id i
  | .ptr id off =>
    match s.get id with
    | some o =>
      match o.vals with
      | some vs =>
        match isAggT P t with
        | some true =>
          match sizeT P t with
          | some n => if off + n ≤ vs.length then some (.agg ((vs.drop off).take n)) else none
          | none => none
        | some false => vs[off]?
        | none => none
      | none => none
    | none => none
  | _ => none

theorem cells_of_take {arr : Array Value} {n off m : Nat} {b : Nat} {e : TypeId} {fr : Nat × Nat} (hg : w.heap[b]? = some (.cells arr e fr)) :
    ∀ j v, (((arr.toList.take n).drop off).take m)[j]? = some v → w.cell? ((⟨b, off, none⟩ : Addr).add j) = some v := by
  intro j v hj
  rw [Addr.add_lit, cell_of_row w b (off + j) arr e fr hg]
  simp only [List.getElem?_take, List.getElem?_drop] at hj
  split at hj
  · split at hj
    · simpa using hj
    · cases hj
  · cases hj

/-- The bytes behind a number. -/
theorem dataOf_ok (h : Rep F A w0 σ w s) {id : Nat} {ro : Bool} {t : Tm} (hd : dataOf s id ro = some t) :
    ∃ b κ arr e fr, σ id = some (b, κ) ∧ w.heap[b]? = some (.cells arr e fr) ∧ (arr.toList.drop (cond ro κ 0)).take (t.val F).d.length = (t.val F).d.map byteV := by
  unfold dataOf at hd
  split at hd
  · rename_i t' e ho
    simp only [Option.some.injEq] at hd
    subst hd
    obtain ⟨b, κ, hb, hl⟩ := h.obj id _ ho
    obtain ⟨ob, hob, arr, h1, rfl, _⟩ := hl rfl
    exact ⟨b, κ, arr, e, _, hb, hob, by simpa using h1⟩
  · rename_i t' ho
    simp only [Option.some.injEq] at hd
    subst hd
    obtain ⟨b, κ, hb, hl⟩ := h.obj id _ ho
    obtain ⟨ob, hob, arr, e, fr, h1, rfl⟩ := hl rfl
    exact ⟨b, κ, arr, e, fr, hb, hob, by simpa using h1⟩
  · cases hd
theorem byte_at {arr : Array Value} {k : Nat} {l : List UInt8} {b : Nat} {e : TypeId} {fr : Nat × Nat} (hg : w.heap[b]? = some (.cells arr e fr)) (hr : (arr.toList.drop k).take l.length = l.map byteV)
    {o : Nat} (ho : o < l.length) : w.cell? ⟨b, k + o, none⟩ = some (byteV (l.getD o 0)) := by
  rw [cell_of_row w b (k + o) arr e fr hg]
  have h1 : ((arr.toList.drop k).take l.length)[o]? = (l.map byteV)[o]? := by rw [hr]
  simp only [List.getElem?_take, List.getElem?_drop, List.getElem?_map, ho, if_true] at h1
  rw [Array.getElem?_toList] at h1
  rw [h1, List.getElem?_eq_getElem ho]
  simp [List.getD, List.getElem?_eq_getElem ho]
theorem litsOf_ok {k : IntKind} : ∀ {cs : List AV} {ns : List Int} {l : List Value}, litsOf k cs = some ns → VRs F σ cs l → l = ns.map (Value.int k)
  | [], ns, l, h, hl => by
    simp only [litsOf, Option.some.injEq] at h; subst h
    simp only [VRs] at hl; subst hl; rfl
  | .int k' (.lit n) :: cs, ns, l, h, hl => by
    simp only [litsOf] at h
    split at h
    · rename_i hk
      subst hk
      split at h
      · rename_i ms hms
        simp only [Option.some.injEq] at h
        subst h
        simp only [VRs, VR, Tm.val, Dat.i_int] at hl
        obtain ⟨y, ys, rfl, hys, rfl⟩ := hl
        rw [litsOf_ok hms hys]; rfl
      · cases h
    · cases h
theorem loadTab_ok (hR : FOK F R) (h : Rep F A w0 σ w s) {t : TypeId} {id : Nat} {i : Tm} {v : AV} (he : evLoadTab P R s t id i = some v) {va : Value} (ha : VR F σ (.dp id i false) va) :
    ∃ rv, (Instr.loadAt t va).run P w = .ok rv w ∧ VR F σ v rv := by
  unfold evLoadTab at he
  split at he
  · rename_i k ns hd hagg
    split at he
    · rename_i hc
      simp only [Bool.and_eq_true] at hc
      have h1 := nn_ok hR hc.1
      have h2 := leq_ok hR hc.2
      rw [ladd_val] at h2
      simp only [Tm.val, Dat.i_int] at h2
      simp only [Option.some.injEq] at he
      subst he
      unfold tabOf at hd
      split at hd
      · rename_i k' x vs e ho
        split at hd
        · rename_i ms hms
          simp only [Option.some.injEq, Prod.mk.injEq] at hd
          obtain ⟨rfl, rfl⟩ := hd
          obtain ⟨b, κ, arr, e', fr, hb, hblk, hr⟩ := h.vals ho rfl
          have hl := litsOf_ok hms hr
          simp only [VR] at ha
          obtain ⟨b', κ', hb', o, hio, rfl⟩ := ha
          rw [hb] at hb'
          simp only [Option.some.injEq, Prod.mk.injEq] at hb'
          obtain ⟨rfl, rfl⟩ := hb'
          have hlen : o < ms.length := by omega
          have hcell : w.cell? ⟨b, cond false κ 0 + o, none⟩ = some (.int k' (ms.getD o 0)) := by
            simp only [cond_false, Nat.zero_add]
            rw [cell_of_row w b _ arr e' fr hblk]
            have h3 : (arr.toList.take (AV.int k' x :: vs).length)[o]? = (ms.map (Value.int k'))[o]? := by rw [hl]
            rw [List.getElem?_map, List.getElem?_eq_getElem hlen, List.getElem?_take] at h3
            split at h3
            · simpa [List.getD, List.getElem?_eq_getElem hlen] using h3
            · simp at h3
          simp only [cond_false, Nat.zero_add] at hcell ⊢
          refine ⟨_, by simp [Instr.loadAt, Instr.sureAddr, loadVar, run_isAggT hagg, hcell]; rfl, ?_⟩
          simp only [VR, Tm.val, Dat.i_int, hio, Int.toNat_natCast]
          simp
        · cases hd
      · cases hd
    · cases he
  · cases he
theorem load_ok (hR : FOK F R) (h : Rep F A w0 σ w s) {t : TypeId} {a v : AV} (he : evLoad P R s t a = some v) {va : Value} (ha : VR F σ a va) :
    ∃ rv, (Instr.loadAt t va).run P w = .ok rv w ∧ VR F σ v rv := by
  unfold evLoad at he
  split at he
  · rename_i id i ro
    split at he
    · rename_i d hd hagg
      split at he
      · rename_i hc
        simp only [Bool.and_eq_true] at hc
        have h1 := nn_ok hR hc.1
        have h2 := leq_ok hR hc.2
        rw [lenT_ok hR, ladd_val] at h2
        simp only [Tm.val, Dat.i_int] at h2
        simp only [Option.some.injEq] at he
        subst he
        obtain ⟨b, κ, arr, e, fr, hb, hblk, hrow⟩ := dataOf_ok h hd
        simp only [VR] at ha
        obtain ⟨b', κ', hb', o, hio, rfl⟩ := ha
        rw [hb] at hb'
        simp only [Option.some.injEq, Prod.mk.injEq] at hb'
        obtain ⟨rfl, rfl⟩ := hb'
        have hc := byte_at hblk hrow (o := o) (by omega)
        refine ⟨_, by simp [Instr.loadAt, Instr.sureAddr, loadVar, run_isAggT hagg, hc]; rfl, ?_⟩
        simp only [VR, dat_ok hR d h1, hio, byteV, Int.toNat_natCast]
        simp
      · cases he
    · split at he
      · cases he
      · rename_i hro
        obtain rfl : ro = false := by simpa using hro
        exact loadTab_ok hR h he ha
  · rename_i id off
    split at he
    · rename_i o ho
      split at he
      · rename_i vs hvs
        obtain ⟨b, κ, arr, e, fr, hb, hblk, hr⟩ := h.vals ho hvs
        simp only [VR] at ha
        obtain ⟨b', κ', hb', rfl⟩ := ha
        rw [hb] at hb'
        simp only [Option.some.injEq, Prod.mk.injEq] at hb'
        obtain ⟨rfl, rfl⟩ := hb'
        split at he
        · rename_i hagg
          split at he
          · rename_i n hn
            split at he
            · rename_i hle
              simp only [Option.some.injEq] at he
              subst he
              have hlen : (((arr.toList.take vs.length).drop off).take n).length = n := by
                have := hr.length
                simp only [List.length_take, List.length_drop] at this ⊢
                omega
              have hrun := run_loadCells_list (P := P) w (⟨b, off, none⟩ : Addr) _ (cells_of_take (n := vs.length) (off := off) (m := n) hblk)
              rw [hlen] at hrun
              refine ⟨.agg (((arr.toList.take vs.length).drop off).take n).toArray, ?_, ?_⟩
              · simp only [Instr.loadAt, Instr.sureAddr, loadVar, Sem.run_bind, Sem.run_pure, Result.andThen_ok, run_isAggT hagg, if_true, run_sizeT hn, hrun]
              · simp only [VR]
                exact ⟨_, (hr.drop off).take n, rfl⟩
            · cases he
          · cases he
        · rename_i hagg
          obtain ⟨y, hy, hvy⟩ := hr.get off v he
          have hc : w.cell? ⟨b, off, none⟩ = some y := by
            rw [cell_of_row w b off arr e _ hblk]
            simp only [List.getElem?_take] at hy
            split at hy
            · simpa using hy
            · cases hy
          refine ⟨y, ?_, hvy⟩
          simp [Instr.loadAt, Instr.sureAddr, loadVar, run_isAggT hagg, hc]
        · cases he
      · cases he
    · cases he
  · cases he

theorem splice_take (cur c : List Value) (off m n : Nat) (hc : c.length = m) (h : off + m ≤ n) (hn : n ≤ cur.length) :
    (cur.take off ++ c ++ cur.drop (off + m)).take n = (cur.take n).take off ++ c ++ (cur.take n).drop (off + m) := by
  subst hc
  apply List.ext_getElem?
  intro i
  simp only [List.getElem?_take, List.getElem?_append, List.length_append, List.length_take, List.getElem?_drop]
  by_cases h1 : i < n
  · simp only [h1, if_true]
    by_cases h2 : i < off + c.length
    · simp only [show min off cur.length = off by omega, show min off (min n cur.length) = off by omega, h2, if_true]
    · simp only [show min off cur.length = off by omega, show min off (min n cur.length) = off by omega, h2, if_false,
        show off + c.length + (i - (off + c.length)) < n by omega, if_true]
  · simp only [h1, if_false]
    have h2 : ¬ i < off + c.length := by omega
    have h3 : ¬ off + c.length + (i - (off + c.length)) < n := by omega
    simp only [show min off (min n cur.length) = off by omega, h2, h3, if_false]

/-- Bytes are laid into a row of bytes. -/
theorem Rep.dsplice (h : Rep F A w0 σ w s) {id : Nat} {t t' : Tm} {e : TypeId} {b κ : Nat} {s' : AS} {o : Nat} {l : List UInt8} (ho : s.get id = some (.data t e)) (hσ : σ id = some (b, κ))
    (hle : o + l.length ≤ (t.val F).d.length) (ht' : (t'.val F).d = (t.val F).d.take o ++ l ++ (t.val F).d.drop (o + l.length)) (hp : s.put id (.data t' e) = some s') :
    ∃ w', (storeCells ⟨b, o, none⟩ (l.map byteV)).run P w = .ok () w' ∧ Rep F A w0 σ w' s' := by
  obtain ⟨b', κ', hb, hl⟩ := h.obj id _ ho
  rw [hσ] at hb
  simp only [Option.some.injEq, Prod.mk.injEq] at hb
  obtain ⟨rfl, rfl⟩ := hb
  obtain ⟨ob, hob, arr, hr, rfl, hsz, hmx⟩ := hl rfl
  have hlen : (t.val F).d.length ≤ arr.size := by
    have := congrArg List.length hr
    simp only [List.length_take, Array.length_toList, List.length_map] at this
    omega
  have hrun := run_storeCells_at (P := P) b o e (l.map byteV) 0 arr w hob (by simp; omega) (by intro v hv; simp only [List.mem_map] at hv; obtain ⟨x, _, rfl⟩ := hv; rfl)
  refine ⟨_, hrun, h.put ho rfl rfl hp rfl hσ (Upd.setRow hob) ⟨_, ?_, rfl, ?_, hmx⟩⟩
  · have hl' : (t'.val F).d.length = (t.val F).d.length := by rw [ht']; simp; omega
    rw [hl', ht']
    simp only [Nat.add_zero, List.length_map]
    have := splice_take arr.toList (l.map byteV) o l.length (t.val F).d.length (by simp) hle (by simpa using hlen)
    rw [this, hr]
    simp
  · simp only [Nat.add_zero, List.size_toArray, List.length_append, List.length_take, List.length_drop, Array.length_toList, List.length_map]
    omega

def evStore (P : Program) (R : Facts) (s : AS) (t : TypeId) (a v : AV) : Option AS :=
  match a with
  | .dp id i false =>
    match s.get id, v, sizeT P t with
    | some (.data d e), .int .u8 x, some 1 => if nn R i && leq R (ladd i (.lit 1)) (lenT R d) && (rng R x).within 0 255 then s.put id (.data (dupd R d i (mkOne x)) e) else none
    | _, _, _ => none
  | .ptr id off =>
    match s.get id with
    | some o =>
      match o.wvals, sizeT P t with
      | some vs, some n =>
        if n = v.cellsOf.length ∧ off + n ≤ vs.length ∧ v.cellsOf.all (·.scalar) = true then
          s.put id (o.setVals (vs.take off ++ v.cellsOf ++ vs.drop (off + n)))
        else none
      | _, _ => none
    | none => none
  | _ => none

theorem Rep.splice (h : Rep F A w0 σ w s) {id : Nat} {o : AObj} {vs cv : List AV} {off : Nat} {b κ : Nat} {s' : AS} {l : List Value} (ho : s.get id = some o) (hvs : o.wvals = some vs)
    (hσ : σ id = some (b, κ)) (hcv : VRs F σ cv l) (hs : cv.all (·.scalar) = true) (hle : off + cv.length ≤ vs.length) (hp : s.put id (o.setVals (vs.take off ++ cv ++ vs.drop (off + cv.length))) = some s') :
    ∃ w', (storeCells ⟨b, off, none⟩ l).run P w = .ok () w' ∧ Rep F A w0 σ w' s' := by
  have hll := hcv.length
  have own : o.own = true := by cases o <;> first | rfl | cases hvs
  have own' : ∀ us, (o.setVals us).own = true := by intro us; cases o <;> first | rfl | cases hvs
  cases o with
  | cells us e =>
    simp only [AObj.wvals, Option.some.injEq] at hvs
    subst hvs
    obtain ⟨b', κ', hb, hl⟩ := h.obj id _ ho
    rw [hσ] at hb
    simp only [Option.some.injEq, Prod.mk.injEq] at hb
    obtain ⟨rfl, rfl⟩ := hb
    obtain ⟨ob, hob, cur, hr, rfl⟩ := hl rfl
    have hcl := hr.length
    have hrun := run_storeCells_at (P := P) b off e l 0 cur.toArray w hob (by simp; omega) (hcv.oneCell hs)
    refine ⟨_, hrun, h.put ho own rfl hp (own' _) hσ (Upd.setRow hob) ?_⟩
    refine ⟨_, ((hr.take off).append hcv).append (hr.drop (off + cv.length)), ?_⟩
    simp [hll]
  | row us e sz =>
    simp only [AObj.wvals, Option.some.injEq] at hvs
    subst hvs
    obtain ⟨b', κ', hb, hl⟩ := h.obj id _ ho
    rw [hσ] at hb
    simp only [Option.some.injEq, Prod.mk.injEq] at hb
    obtain ⟨rfl, rfl⟩ := hb
    obtain ⟨ob, hob, arr, hr, rfl, hsz, hmx⟩ := hl rfl
    have hcl := hr.length
    simp only [List.length_take, Array.length_toList] at hcl
    have hrun := run_storeCells_at (P := P) b off e l 0 arr w hob (by omega) (hcv.oneCell hs)
    refine ⟨_, hrun, h.put ho own rfl hp (own' _) hσ (Upd.setRow hob) ?_⟩
    refine ⟨_, ?_, rfl, ?_, hmx⟩
    · have := ((hr.take off).append hcv).append (hr.drop (off + cv.length))
      have e1 : (us.take off ++ cv ++ us.drop (off + cv.length)).length = us.length := by
        simp only [List.length_append, List.length_take, List.length_drop]; omega
      rw [e1, Nat.add_zero, hll]
      simp only []
      rw [splice_take arr.toList l off cv.length us.length hll hle (by simp; omega)]
      exact this
    · simp only [Nat.add_zero, List.size_toArray, List.length_append, List.length_take, List.length_drop, Array.length_toList]
      omega
  | _ => cases hvs

theorem store_ok (hR : FOK F R) (h : Rep F A w0 σ w s) {t : TypeId} {a v : AV} {s' : AS} (he : evStore P R s t a v = some s') {va vv : Value} (ha : VR F σ a va) (hv : VR F σ v vv) :
    ∃ w', (Instr.storeAt t va vv).run P w = .ok () w' ∧ Rep F A w0 σ w' s' := by
  unfold evStore at he
  split at he
  · rename_i id i
    split at he
    · rename_i d e x ho hn
      split at he
      · rename_i hc
        simp only [Bool.and_eq_true] at hc
        have h1 := nn_ok hR hc.1.1
        have h2 := leq_ok hR hc.1.2
        have h3 := Iv.within_ok hc.2 (rng_ok hR x)
        rw [lenT_ok hR, ladd_val] at h2
        simp only [Tm.val, Dat.i_int] at h2
        simp only [VR] at ha hv
        obtain ⟨b, κ, hb, o, hio, rfl⟩ := ha
        subst hv
        have hone := mkOne_ok (F := F) x
        have hupd := dupd_ok hR (t := d) (src := mkOne x) h1 (by rw [hone]; simp; omega)
        rw [hone, hio] at hupd
        obtain ⟨w', hrun, hrep⟩ := h.dsplice (P := P) (o := o) (l := [UInt8.ofNat (x.val F).i.toNat]) ho hb (by simp; omega) (by simpa using hupd) he
        refine ⟨w', ?_, hrep⟩
        have hbv : byteV (UInt8.ofNat (x.val F).i.toNat) = .int .u8 (x.val F).i := by
          unfold byteV
          rw [UInt8.toNat_ofNat', Nat.mod_eq_of_lt (by omega)]
          congr 1; omega
        have hsz : (Value.int .u8 (x.val F).i).cells.toList = [Value.int .u8 (x.val F).i] := rfl
        simp only [List.map_cons, List.map_nil, hbv] at hrun
        simp only [cond_false, Nat.zero_add]
        simp only [Instr.storeAt, Instr.sureAddr, storeVar, Sem.run_bind, Sem.run_pure, Result.andThen_ok, run_sizeT hn, hsz]
        simpa [Value.cells] using hrun
      · cases he
    · cases he
  · rename_i id off
    split at he
    · rename_i o ho
      split at he
      · rename_i vs n hvs hn
        split at he
        · rename_i hc
          obtain ⟨hc1, hc2, hc3⟩ := hc
          subst hc1
          simp only [VR] at ha
          obtain ⟨b, κ, hb, rfl⟩ := ha
          have hcells := hv.cells
          obtain ⟨w', hrun, hrep⟩ := h.splice (P := P) ho hvs hb hcells hc3 hc2 he
          refine ⟨w', ?_, hrep⟩
          have hsz : vv.cells.size = v.cellsOf.length := by rw [← hcells.length]; simp
          simp only [Instr.storeAt, Instr.sureAddr, storeVar, Sem.run_bind, Sem.run_pure, Result.andThen_ok, run_sizeT hn, hsz, ne_eq, not_true_eq_false, if_false, hrun]
        · cases he
      · cases he
    · cases he
  · cases he

/-- A new variable. -/
def evNewVar (s : AS) (e : TypeId) (v : AV) : Option (AV × AS) :=
  match s.new (.cells v.cellsOf e) with
  | some (id, s') => some (.ptr id 0, s')
  | none => none

theorem newVar_ok (h : Rep F A w0 σ w s) {e : TypeId} {v r : AV} {s' : AS} (he : evNewVar s e v = some (r, s')) {vv : Value} (hv : VR F σ v vv) :
    ∃ σ' w' a, (newVar e vv).run P w = .ok a w' ∧ VR F σ' r (.pointer (some a)) ∧ σ.le σ' ∧ Rep F A w0 σ' w' s' := by
  unfold evNewVar at he
  split at he
  · rename_i id s1 hn
    simp only [Option.some.injEq, Prod.mk.injEq] at he
    obtain ⟨rfl, rfl⟩ := he
    have hle := Sig.le_upd (w.heap.size, 0) (h.fresh _ (AS.get_new hn).1)
    obtain ⟨h1, h2⟩ := h.new hn rfl (κ := 0) (ob := .cells vv.cells e) ⟨vv.cells.toList, (hv.cells.mono hle), by simp⟩
    refine ⟨_, _, ⟨w.heap.size, 0, none⟩, by simp [newVar, newRow], ?_, h1, h2⟩
    simp only [VR]
    exact ⟨_, _, Sig.upd_same _ _ _, rfl⟩
  · cases he

/-- Parts laid into cells. -/
def evSetAll : List AV → Nat → List AV → List AV
  | cells, _, [] => cells
  | cells, off, c :: cs => evSetAll (cells.set off c) (off + 1) cs

def evFill (place : Nat → Option (Nat × Nat)) : List AV → List (Nat × AV) → Option (List AV)
  | cells, [] => some cells
  | cells, (i, v) :: rest =>
    match place i with
    | none => none
    | some (off, size) => if v.cellsOf.length = size ∧ off + size ≤ cells.length then evFill place (evSetAll cells off v.cellsOf) rest else none

def PRs (F : Fix S) (σ : Sig) : List (Nat × AV) → List (Nat × Value) → Prop
  | [], l => l = []
  | (i, x) :: xs, l => ∃ y ys, VR F σ x y ∧ PRs F σ xs ys ∧ l = (i, y) :: ys

theorem evSetAll_length : ∀ (cs : List AV) (cells : List AV) (off : Nat), (evSetAll cells off cs).length = cells.length
  | [], _, _ => rfl
  | c :: cs, cells, off => by simp [evSetAll, evSetAll_length cs]

theorem setAll_ok : ∀ (cs : List AV) (vs : List Value) (cells : List AV) (arr : Array Value) (off k : Nat), VRs F σ cs vs → VRs F σ cells arr.toList →
    VRs F σ (evSetAll cells (off + k) cs) ((vs.zipIdx k).foldl (fun a p => a.setIfInBounds (off + p.2) p.1) arr).toList
  | [], _, cells, arr, off, k, h, h2 => by simp only [VRs] at h; subst h; simpa [evSetAll] using h2
  | c :: cs, _, cells, arr, off, k, h, h2 => by
    simp only [VRs] at h
    obtain ⟨y, ys, hy, hys, rfl⟩ := h
    simp only [evSetAll, List.zipIdx_cons, List.foldl_cons]
    exact setAll_ok cs ys (cells.set (off + k) c) (arr.setIfInBounds (off + k) y) off (k + 1) hys (by simpa using h2.set (off + k) hy)

theorem fill_ok (place : Nat → Option (Nat × Nat)) : ∀ (parts : List (Nat × AV)) (vparts : List (Nat × Value)) (cells out : List AV) (arr : Array Value), PRs F σ parts vparts → VRs F σ cells arr.toList →
    evFill place cells parts = some out → ∃ arr', Instr.fill place arr vparts = some arr' ∧ VRs F σ out arr'.toList
  | [], _, cells, out, arr, hp, hc, he => by
    simp only [PRs] at hp
    subst hp
    simp only [evFill, Option.some.injEq] at he
    subst he
    exact ⟨arr, rfl, hc⟩
  | (i, x) :: xs, _, cells, out, arr, hp, hc, he => by
    simp only [PRs] at hp
    obtain ⟨y, ys, hy, hys, rfl⟩ := hp
    simp only [evFill] at he
    split at he
    · cases he
    · rename_i off size hpl
      split at he
      · rename_i hcond
        have hcells := hy.cells
        have hs1 : y.cells.size = size := by rw [← hcond.1, ← hcells.length]; simp
        have hs2 : cells.length = arr.size := by rw [← hc.length]; simp
        have hset := setAll_ok (F := F) (σ := σ) x.cellsOf y.cells.toList cells arr off 0 hcells hc
        obtain ⟨arr', h1, h2⟩ := fill_ok place xs ys _ out _ hys hset he
        refine ⟨arr', ?_, h2⟩
        simp only [Instr.fill, hpl]
        rw [if_neg (by simp [hs1]; omega)]
        rw [← h1]
        congr 1
        rw [← Array.foldl_toList, Array.toList_zipIdx]
      · cases he

def structPlaces (P : Program) : List Field → Option (List (Nat × Nat))
  | [] => some []
  | f :: fs =>
    match P.info? f.type, structPlaces P fs with
    | some i, some l => some ((f.offset, i.size) :: l)
    | _, _ => none

theorem structPlaces_eq : ∀ (fs : List Field), fs.mapM (fun f => (P.info? f.type).map fun i => (f.offset, i.size)) = structPlaces P fs
  | [] => rfl
  | f :: fs => by
    have ih := structPlaces_eq fs
    simp only [List.mapM_cons, Option.bind_eq_bind, Option.pure_def, ih, structPlaces]
    cases P.info? f.type <;> cases structPlaces P fs <;> rfl

def evBuild (P : Program) (t : TypeId) (parts : List (Nat × AV)) : Option AV :=
  match zeroT P t with
  | some z =>
    match P.underlying t with
    | some (.struct fields) =>
      match structPlaces P fields.toList with
      | some pl =>
        match evFill (pl[·]?) z.cellsOf parts with
        | some cs => some (.agg cs)
        | none => none
      | none => none
    | some (.array _ e) =>
      match sizeT P e with
      | some n =>
        match evFill (fun i => some (i * n, n)) z.cellsOf parts with
        | some cs => some (.agg cs)
        | none => none
      | none => none
    | _ => none
  | none => none

theorem build_ok {t : TypeId} {parts : List (Nat × AV)} {v : AV} (he : evBuild P t parts = some v) {vparts : Array (Nat × Value)} (hp : PRs F σ parts vparts.toList) (w : World) :
    ∃ rv, (Instr.build t vparts).run P w = .ok rv w ∧ VR F σ v rv := by
  unfold evBuild at he
  split at he
  · rename_i z hz
    unfold zeroT at hz
    split at hz
    · rename_i it hit
      split at hz
      · rename_i zv hzv
        have hzr := ofV_ok (F := F) (σ := σ) hz
        split at he
        · rename_i fields hu
          split at he
          · rename_i pl hpl
            split at he
            · rename_i cs hcs
              simp only [Option.some.injEq] at he
              subst he
              obtain ⟨arr', h1, h2⟩ := fill_ok _ _ _ _ _ _ hp hzr.cells hcs
              refine ⟨.agg arr', run_build w t vparts arr' ?_, by simp only [VR]; exact ⟨_, h2, by simp⟩⟩
              unfold Program.built
              simp only [hit, hu, hzv, structPlaces_eq, hpl]
              simpa using h1
            · cases he
          · cases he
        · rename_i n e hu
          split at he
          · rename_i m hm
            split at he
            · rename_i cs hcs
              simp only [Option.some.injEq] at he
              subst he
              obtain ⟨arr', h1, h2⟩ := fill_ok _ _ _ _ _ _ hp hzr.cells hcs
              refine ⟨.agg arr', run_build w t vparts arr' ?_, by simp only [VR]; exact ⟨_, h2, by simp⟩⟩
              unfold Program.built
              unfold sizeT at hm
              split at hm
              · rename_i ie hie
                simp only [Option.some.injEq] at hm
                subst hm
                simp only [hit, hu, hzv, hie]
                exact h1
              · cases hm
            · cases he
          · cases he
        · cases he
      · cases hz
    · cases hz
  · cases he
end
end
end Go.Sy
