/- copy: the evaluator's and the model's agree. Conditions: what is told of the names. -/
import Derived.Test.YtpjakhjaicegjaaGreatDoorSy9
import GoSem.Builtin.Copy
namespace Go.Sy
open Go.RowKit
variable {S : Sg}
noncomputable section

/-- Bytes of which the number is known, as cells. -/
def cellsOfData (R : Facts) (t : Tm) (k : Nat) : List AV := (List.range k).map fun (i : Nat) => AV.int .u8 (dat R t (.lit (i : Int)))

def copyCells (s : AS) (id off n : Nat) (cs : List AV) (k : Nat) : Option (AV × AS) :=
  match s.get id with
  | some o => match o.wvals with
    | some vs => if cs.length = k * n ∧ off + cs.length ≤ vs.length ∧ cs.all (·.scalar) = true then
        match s.put id (o.setVals (vs.take off ++ cs ++ vs.drop (off + cs.length))) with
        | some s' => some (.int .i64 (.lit k), s')
        | none => none
      else none
    | none => none
  | none => none
def copyData (R : Facts) (s : AS) (id : Nat) (off n t : Tm) : Option (AV × AS) :=
  match s.get id with
  | some (.data d e) => if nn R off && leq R (ladd off n) (lenT R d) then match s.put id (.data (dupd R d off t) e) with
    | some s' => some (.int .i64 n, s')
    | none => none
    else none
  | _ => none
def srcTm (R : Facts) : Src → Option Tm
  | .cells cs _ => cellsTm R cs
  | .data t => some t
def copyView (R : Facts) (s : AS) (id : Nat) (off len t : Tm) : Option (AV × AS) :=
  if leq R (lenT R t) len then copyData R s id off (lenT R t) t
  else if nn R len && leq R len (lenT R t) then copyData R s id off len (dsub R t (.lit 0) len) else none
def evCopy (P : Program) (R : Facts) (s : AS) (t : TypeId) (x y : AV) : Option (AV × AS) :=
  match P.underlying t with
  | some (.slice e) =>
    match sizeT P e with
    | some n =>
      match srcOf R s n y with
      | some src =>
        match x, src with
        | .sl id off len _, .cells cs m => copyCells s id off n (cs.take (min m len * n)) (min m len)
        | .sl id off len _, .data t => match lenT R t with
          | .lit m => if 0 ≤ m ∧ n = 1 then copyCells s id off n (cellsOfData R t (min m.toNat len)) (min m.toNat len) else none
          | _ => none
        | .vw id off len _, src => if n = 1 then match srcTm R src with
          | some t => copyView R s id off len t
          | none => none
          else none
        | .nilsl, _ => some (.int .i64 (.lit 0), s)
        | _, _ => none
      | none => none
    | none => none
  | _ => none

section
variable {F : Fix S} {A : Nat → Prop} {w0 : World} {σ : Sig} {w : World} {s : AS} {P : Program} {R : Facts}

theorem run_firstPart {n m k : Nat} {vy : Value} {l : List Value} (hs : SrcAt w vy m l) (hl : l.length = m * n) (hk : k ≤ m) :
    (Builtin.lenOf vy).run P w = .ok m w ∧ (Builtin.firstCells n k vy).run P w = .ok (l.take (k * n)).toArray w := by
  rcases hs with ⟨rfl, rfl⟩ | ⟨a, c, rfl, hc⟩
  · have h0 : k = 0 := by omega
    subst h0
    simp [Builtin.lenOf, Builtin.firstCells]
  · refine ⟨rfl, ?_⟩
    have hle : (l.take (k * n)).length = k * n := by
      have := Nat.mul_le_mul_right n hk
      simp; omega
    have := run_loadCells_list (P := P) w a (l.take (k * n)) (fun j v hj => hc j v (by
      rw [List.getElem?_take] at hj
      split at hj
      · exact hj
      · cases hj))
    rw [hle] at this
    simpa [Builtin.firstCells] using this

theorem run_copy {t t2 ty e : TypeId} {n m k dl dc : Nat} {ad : Addr} {vy : Value} {l : List Value} {w' : World} (hu : P.underlying t = some (.slice e)) (hn : sizeT P e = some n) (hs : SrcAt w vy m l) (hl : l.length = m * n)
    (hk : k = min m dl) (hst : (storeCells ad (l.take (k * n))).run P w = .ok () w') :
    (Builtin.copy_ #[t, t2] ty #[.slice (some ad) dl dc, vy]).run P w = .ok (.int .i64 (k : Int)) w' := by
  obtain ⟨h1, h2⟩ := run_firstPart (P := P) (n := n) (k := k) hs hl (by rw [hk]; exact Nat.min_le_left _ _)
  have hk' : Nat.min m dl = k := hk.symm
  simp [Builtin.copy_, run_underlying hu, h1, run_sizeT hn, hk', h2, hst, goInt]

theorem copyCells_ok (h : Rep F A w0 σ w s) {t t2 ty e : TypeId} {n m k dl dc id off b κ : Nat} {cs : List AV} {vy : Value} {l : List Value} (hu : P.underlying t = some (.slice e)) (hn : sizeT P e = some n) (hs : SrcAt w vy m l) (hl : l.length = m * n)
    (hk : k = min m dl) (hcs : VRs F σ cs (l.take (k * n))) (hb : σ id = some (b, κ)) {r : AV} {s' : AS} (he : copyCells s id off n cs k = some (r, s')) :
    ∃ w' rv, (Builtin.copy_ #[t, t2] ty #[.slice (some ⟨b, off, none⟩) dl dc, vy]).run P w = .ok rv w' ∧ VR F σ r rv ∧ Rep F A w0 σ w' s' := by
  unfold copyCells at he
  split at he
  · rename_i o ho
    split at he
    · rename_i vs hvs
      split at he
      · rename_i hc
        obtain ⟨hc1, hc2, hc3⟩ := hc
        split at he
        · rename_i s1 hp
          simp only [Option.some.injEq, Prod.mk.injEq] at he
          obtain ⟨rfl, rfl⟩ := he
          obtain ⟨w', hst, hrep⟩ := h.splice (P := P) ho hvs hb hcs hc3 hc2 hp
          exact ⟨w', _, run_copy hu hn hs hl hk hst, by simp only [VR, Tm.val, Dat.i_int], hrep⟩
        · cases he
      · cases he
    · cases he
  · cases he

theorem copyData_ok (hR : FOK F R) (h : Rep F A w0 σ w s) {t t2 ty e : TypeId} {m k dl dc id b κ o : Nat} {off n t' : Tm} {vy : Value} {l : List UInt8} (hu : P.underlying t = some (.slice e)) (hn : sizeT P e = some 1) (hs : SrcAt w vy m (l.map byteV)) (hl : l.length = m)
    (hk : k = min m dl) (ho : (off.val F).i = (o : Int)) (hnk : (n.val F).i = (k : Int)) (ht : (t'.val F).d = l.take k) (hb : σ id = some (b, κ)) {r : AV} {s' : AS} (he : copyData R s id off n t' = some (r, s')) :
    ∃ w' rv, (Builtin.copy_ #[t, t2] ty #[.slice (some ⟨b, o, none⟩) dl dc, vy]).run P w = .ok rv w' ∧ VR F σ r rv ∧ Rep F A w0 σ w' s' := by
  unfold copyData at he
  split at he
  · rename_i d e' hid
    split at he
    · rename_i hc
      simp only [Bool.and_eq_true] at hc
      have h1 := nn_ok hR hc.1
      have h2 := leq_ok hR hc.2
      rw [ladd_val, lenT_ok hR, ho, hnk] at h2
      split at he
      · rename_i s1 hp
        simp only [Option.some.injEq, Prod.mk.injEq] at he
        obtain ⟨rfl, rfl⟩ := he
        have hlk : (l.take k).length = k := by
          rw [List.length_take]
          have : k ≤ m := by rw [hk]; exact Nat.min_le_left _ _
          omega
        have hup := dupd_ok hR (t := d) (src := t') h1 (by rw [ht, hlk, ho]; omega)
        rw [ht, ho, Int.toNat_natCast, hlk] at hup
        obtain ⟨w', hst, hrep⟩ := h.dsplice (P := P) (o := o) (l := l.take k) hid hb (by rw [hlk]; omega) (by rw [hlk]; exact hup) hp
        refine ⟨w', _, run_copy (n := 1) hu hn hs (by simp [hl]) hk (by rw [Nat.mul_one, ← List.map_take]; exact hst), by simp only [VR, hnk], hrep⟩
      · cases he
    · cases he
  · cases he

theorem copyView_ok (hR : FOK F R) (h : Rep F A w0 σ w s) {t t2 ty e : TypeId} {m id b κ : Nat} {off len t' : Tm} {cap : CapV} {vx vy : Value} (hu : P.underlying t = some (.slice e)) (hn : sizeT P e = some 1) (hs : SrcAt w vy m ((t'.val F).d.map byteV)) (hlm : (t'.val F).d.length = m)
    (hb : σ id = some (b, κ)) (hv : ViewAt F b 0 κ off len cap vx) {r : AV} {s' : AS} (he : copyView R s id off len t' = some (r, s')) :
    ∃ w' rv, (Builtin.copy_ #[t, t2] ty #[vx, vy]).run P w = .ok rv w' ∧ VR F σ r rv ∧ Rep F A w0 σ w' s' := by
  obtain ⟨o, nv, c, ho, hnv, hcase⟩ := hv
  -- nothing is laid where the place is not known
  have none_ : ∀ (a : Addr) (c : Nat) (n t'' : Tm), nv = 0 → (t''.val F).d = [] → (n.val F).i = 0 → copyData R s id off n t'' = some (r, s') →
      ∃ w' rv, (Builtin.copy_ #[t, t2] ty #[.slice (some a) 0 c, vy]).run P w = .ok rv w' ∧ VR F σ r rv ∧ Rep F A w0 σ w' s' := by
    intro a c n t'' h0 hd0 hn0 he
    have hrun := run_copy (P := P) (t2 := t2) (ty := ty) (ad := a) (dl := 0) (dc := c) (k := 0) (w' := w) hu hn hs (by simp [hlm]) (by simp) (by simp [storeCells])
    unfold copyData at he
    split at he
    · rename_i d e' hid
      split at he
      · rename_i hcc
        simp only [Bool.and_eq_true] at hcc
        have h1 := nn_ok hR hcc.1
        have h2 := leq_ok hR hcc.2
        rw [ladd_val, lenT_ok hR, hn0] at h2
        split at he
        · rename_i s1 hp
          simp only [Option.some.injEq, Prod.mk.injEq] at he
          obtain ⟨rfl, rfl⟩ := he
          have hup := dupd_ok hR (t := d) (src := t'') h1 (by rw [hd0]; simp; omega)
          rw [hd0] at hup
          obtain ⟨w', hst, hrep⟩ := h.dsplice (P := P) (o := (off.val F).i.toNat) (l := []) hid hb (by simp; omega) (by simpa using hup) hp
          have hww : w' = w := by
            simp [storeCells] at hst
            exact hst.symm
          subst hww
          exact ⟨w', _, hrun, by simp only [VR, hn0]; rfl, hrep⟩
        · cases he
      · cases he
    · cases he
  unfold copyView at he
  split at he
  · rename_i hle
    have hle' := leq_ok hR hle
    rw [hnv, lenT_ok hR] at hle'
    have fin : ∀ (c : Nat), ∃ w' rv, (Builtin.copy_ #[t, t2] ty #[.slice (some ⟨b, 0 + o, none⟩) nv c, vy]).run P w = .ok rv w' ∧ VR F σ r rv ∧ Rep F A w0 σ w' s' := by
      intro c
      rw [Nat.zero_add]
      exact copyData_ok hR h hu hn hs hlm (k := m) (by omega) ho (by rw [lenT_ok hR, hlm]) (by rw [List.take_of_length_le (by omega)]) hb he
    cases cap with
    | rest => obtain ⟨rfl, _⟩ := hcase; exact fin _
    | tight => obtain ⟨rfl, _⟩ := hcase; exact fin _
    | any =>
      rcases hcase with ⟨rfl, _⟩ | ⟨rfl, a, rfl⟩
      · exact fin _
      · have hd0 : (t'.val F).d = [] := List.eq_nil_of_length_eq_zero (by omega)
        exact none_ a c _ t' rfl hd0 (by rw [lenT_ok hR, hd0]; rfl) he
  · split at he
    · rename_i hle
      simp only [Bool.and_eq_true] at hle
      have hln := nn_ok hR hle.1
      have hle' := leq_ok hR hle.2
      rw [hnv, lenT_ok hR] at hle'
      have hds : ((dsub R t' (.lit 0) len).val F).d = (t'.val F).d.take nv := by
        rw [dsub_ok hR _ (by simp [Tm.val]) hln, hnv]
        simp only [Tm.val, Dat.i_int, Int.toNat_zero, Int.toNat_natCast]
        rw [slice_eq (by omega), List.drop_zero]
      have fin : ∀ (c : Nat), ∃ w' rv, (Builtin.copy_ #[t, t2] ty #[.slice (some ⟨b, 0 + o, none⟩) nv c, vy]).run P w = .ok rv w' ∧ VR F σ r rv ∧ Rep F A w0 σ w' s' := by
        intro c
        rw [Nat.zero_add]
        exact copyData_ok hR h hu hn hs hlm (k := nv) (by omega) ho hnv hds hb he
      cases cap with
      | rest => obtain ⟨rfl, _⟩ := hcase; exact fin _
      | tight => obtain ⟨rfl, _⟩ := hcase; exact fin _
      | any =>
        rcases hcase with ⟨rfl, _⟩ | ⟨rfl, a, rfl⟩
        · exact fin _
        · exact none_ a c _ _ rfl (by rw [hds]; simp) hnv he
    · cases he

theorem copy_ok (hR : FOK F R) (h : Rep F A w0 σ w s) {t t2 ty : TypeId} {x y r : AV} {s' : AS} (he : evCopy P R s t x y = some (r, s')) {vx vy : Value} (hx : VR F σ x vx) (hy : VR F σ y vy) :
    ∃ w' rv, (Builtin.copy_ #[t, t2] ty #[vx, vy]).run P w = .ok rv w' ∧ VR F σ r rv ∧ Rep F A w0 σ w' s' := by
  unfold evCopy at he
  split at he
  · rename_i e hu
    split at he
    · rename_i n hn
      split at he
      · rename_i src hsrc
        obtain ⟨m, l, hto, hl, hs⟩ := srcOf_ok hR h hsrc hy
        split at he
        · rename_i id off len cap cs m'
          obtain ⟨rfl, hcs⟩ := hto
          simp only [VR] at hx
          obtain ⟨b, κ, hb, rfl⟩ := hx
          exact copyCells_ok h hu hn hs hl rfl (hcs.take _) hb he
        · rename_i id off len cap t'
          obtain ⟨hm, hl', _⟩ := hto
          split at he
          · rename_i m' hlen
            split at he
            · rename_i hc
              obtain ⟨h0, rfl⟩ := hc
              have hlt := lenT_ok hR (F := F) t'
              rw [hlen] at hlt
              simp only [Tm.val, Dat.i_int] at hlt
              have hmm : m'.toNat = m := by omega
              rw [hmm] at he
              simp only [VR] at hx
              obtain ⟨b, κ, hb, rfl⟩ := hx
              refine copyCells_ok h hu hn hs hl rfl ?_ hb he
              rw [hl', Nat.mul_one]
              have e1 : ((t'.val F).d.map byteV).take (min m len) = (List.range (min m len)).map fun i => byteV ((t'.val F).d.getD i 0) := by
                apply List.ext_getElem?
                intro i
                simp only [List.getElem?_take, List.getElem?_map]
                by_cases hi : i < min m len
                · rw [if_pos hi, List.getElem?_range hi]
                  have : i < (t'.val F).d.length := by omega
                  rw [List.getElem?_eq_getElem this]
                  simp [List.getD, List.getElem?_eq_getElem this]
                · rw [if_neg hi, List.getElem?_eq_none (by simpa using hi)]; rfl
              rw [e1]
              refine VRs.map_range (f := fun (i : Nat) => AV.int .u8 (dat R t' (.lit (i : Int)))) _ fun i _ => ?_
              simp only [VR, byteV]
              have := dat_ok hR (F := F) t' (i := .lit i) (by simp [Tm.val])
              rw [this]
              simp [Tm.val]
            · cases he
          · cases he
        · rename_i id off len cap
          split at he
          · rename_i h1
            subst h1
            split at he
            · rename_i t' ht'
              simp only [VR] at hx
              obtain ⟨b, κ, hb, hv⟩ := hx
              have hlb : l = (t'.val F).d.map byteV ∧ (t'.val F).d.length = m := by
                cases src with
                | cells cs m' =>
                  obtain ⟨rfl, hcs⟩ := hto
                  have hlb := cellsTm_ok hR ht' hcs
                  exact ⟨hlb, by rw [hlb] at hl; simpa using hl⟩
                | data t'' =>
                  obtain ⟨hm, hl', _⟩ := hto
                  simp only [srcTm, Option.some.injEq] at ht'
                  subst ht'
                  exact ⟨hl', hm.symm⟩
              obtain ⟨rfl, hlm⟩ := hlb
              exact copyView_ok hR h hu hn hs hlm hb hv he
            · cases he
          · cases he
        · simp only [Option.some.injEq, Prod.mk.injEq] at he
          obtain ⟨rfl, rfl⟩ := he
          simp only [VR] at hx
          subst hx
          obtain ⟨h1, h2⟩ := run_firstPart (P := P) (n := n) (k := 0) hs hl (Nat.zero_le _)
          exact ⟨w, .int .i64 0, by simp [Builtin.copy_, run_underlying hu, h1, run_sizeT hn, h2, goInt], by simp only [VR, Tm.val, Dat.i_int], h⟩
        · cases he
      · cases he
    · cases he
  · cases he
end
end
end Go.Sy
