/- Rows of bytes as terms: lengths, joining, cutting, what stands at a place. Conditions: what is told of the names. -/
import Derived.Test.YtpjakhjaicegjaaGreatDoorSy0
namespace Go.Sy
open Go.RowKit
variable {S : Sg} {F : Fix S} {R : Facts}

def lenT (R : Facts) : Tm → Tm
  | .bs l => .lit l.length
  | .one _ => .lit 1
  | .app a b => ladd (lenT R a) (lenT R b)
  | .sub d o n => if (rng R n).nonneg then n else .len (.sub d o n)
  | .zeros n => if (rng R n).nonneg then n else .len (.zeros n)
  | t => .len t

theorem toNat_of {n : Int} (h : 0 ≤ n) : ((n.toNat : Nat) : Int) = n := Int.toNat_of_nonneg h

theorem lenT_ok (hR : FOK F R) : ∀ t : Tm, ((lenT R t).val F).i = ((t.val F).d.length : Int) := by
  intro t
  induction t with
  | bs l => rfl
  | one a _ => rfl
  | app a b iha ihb => simp only [lenT, ladd_val, iha, ihb, Tm.val, Dat.d_bytes, List.length_append]; omega
  | sub d o n _ _ _ =>
    simp only [lenT]
    split
    · rename_i h
      have := Iv.nonneg_ok h (rng_ok hR n)
      simp only [Tm.val, Dat.d_bytes, slice_length]
      rw [toNat_of this]
    · rfl
  | zeros n _ =>
    simp only [lenT]
    split
    · rename_i h
      have := Iv.nonneg_ok h (rng_ok hR n)
      simp only [Tm.val, Dat.d_bytes, List.length_replicate]
      rw [toNat_of this]
    · rfl
  | _ => rfl

def mkOne : Tm → Tm
  | .lit n => if 0 ≤ n ∧ n < 256 then .bs [UInt8.ofNat n.toNat] else .one (.lit n)
  | a => .one a
theorem mkOne_ok (a : Tm) : ((mkOne a).val F).d = [UInt8.ofNat (a.val F).i.toNat] := by
  unfold mkOne
  split
  · split <;> rfl
  · rfl

/-- Two rows behind one another; what is known of both ends is laid together. -/
def dapp1 (a b : Tm) : Tm := match a, b with
  | .bs [], b => b
  | .bs l, .bs m => .bs (l ++ m)
  | .bs l, .app (.bs m) r => .app (.bs (l ++ m)) r
  | a, .bs [] => a
  | a, b => .app a b
theorem dapp1_ok (a b : Tm) : ((dapp1 a b).val F).d = (a.val F).d ++ (b.val F).d := by
  unfold dapp1
  split <;> simp [Tm.val]
def dapp : Tm → Tm → Tm
  | .app x y, b => dapp1 x (dapp y b)
  | a, b => dapp1 a b
theorem dapp_ok : ∀ (a b : Tm), ((dapp a b).val F).d = (a.val F).d ++ (b.val F).d := by
  intro a
  induction a with
  | app x y _ ihy => intro b; simp only [dapp, dapp1_ok, ihy, Tm.val, Dat.d_bytes, List.append_assoc]
  | _ => intro b; simp only [dapp, dapp1_ok]

def isZ (R : Facts) (t : Tm) : Bool := match isNought (rng R t) with
  | some true => true
  | _ => false
theorem isZ_ok (hR : FOK F R) {t : Tm} (h : isZ R t = true) : (t.val F).i = 0 := by
  unfold isZ at h
  split at h
  · rename_i hh
    have := isNought_ok hh (rng_ok hR t)
    simpa using this
  · cases h
def nn (R : Facts) (t : Tm) : Bool := (rng R t).nonneg
theorem nn_ok (hR : FOK F R) {t : Tm} (h : nn R t = true) : 0 ≤ (t.val F).i := Iv.nonneg_ok h (rng_ok hR t)
/-- a is at most b, as far as it can be told. -/
def leq (R : Facts) (a b : Tm) : Bool := nn R (lsub b a)
theorem leq_ok (hR : FOK F R) {a b : Tm} (h : leq R a b = true) : (a.val F).i ≤ (b.val F).i := by
  have := nn_ok hR h
  rw [lsub_val] at this
  omega

/-- A part of one segment. -/
def cut (R : Facts) (s o n : Tm) : Tm :=
  if isZ R n then .bs [] else
  if isZ R o && isZ R (lsub n (lenT R s)) then s else
  match s with
  | .bs l => match o, n with
    | .lit o', .lit n' => if 0 ≤ o' ∧ 0 ≤ n' ∧ o' + n' ≤ l.length then .bs (slice l o'.toNat n'.toNat) else .sub s o n
    | _, _ => .sub s o n
  | .zeros m => if leq R (ladd o n) m then .zeros n else .sub s o n
  | .sub d o' n' => if nn R o' && leq R (ladd o n) n' then .sub d (ladd o' o) n else .sub s o n
  | s => .sub s o n

theorem cut_ok (hR : FOK F R) {s o n : Tm} (ho : 0 ≤ (o.val F).i) (hn : 0 ≤ (n.val F).i) :
    ((cut R s o n).val F).d = slice (s.val F).d (o.val F).i.toNat (n.val F).i.toNat := by
  unfold cut
  split
  · rename_i h
    rw [isZ_ok hR h]
    simp [Tm.val, slice_zero]
  split
  · rename_i h
    simp only [Bool.and_eq_true] at h
    have h1 := isZ_ok hR h.1
    have h2 := isZ_ok hR h.2
    rw [lsub_val, lenT_ok hR] at h2
    have h3 : (n.val F).i.toNat = (s.val F).d.length := by omega
    rw [h1, h3]
    exact (slice_all _).symm
  split
  · rename_i l
    split
    · rename_i o' n'
      split
      · rename_i hc
        rfl
      · rfl
    · rfl
  · rename_i m
    split
    · rename_i h
      have := leq_ok hR h
      rw [ladd_val] at this
      simp only [Tm.val, Dat.d_bytes]
      rw [slice_replicate]
      omega
    · rfl
  · rename_i d o' n'
    split
    · rename_i h
      simp only [Bool.and_eq_true] at h
      have h1 := nn_ok hR h.1
      have h2 := leq_ok hR h.2
      rw [ladd_val] at h2
      simp only [Tm.val, Dat.d_bytes, ladd_val]
      rw [slice_slice _ _ _ _ _ (by omega)]
      congr 1; omega
    · rfl
  · rfl

/-- Bytes at a place. -/
def dsub (R : Facts) : Tm → Tm → Tm → Tm
  | .app s r, o, n =>
    let ls := lenT R s
    if leq R ls o then dsub R r (lsub o ls) n
    else if leq R (ladd o n) ls then cut R s o n
    else if leq R o ls && leq R ls (ladd o n) then dapp (cut R s o (lsub ls o)) (dsub R r (.lit 0) (lsub (ladd o n) ls))
    else .sub (.app s r) o n
  | s, o, n => cut R s o n
theorem dsub_ok (hR : FOK F R) : ∀ (t : Tm) {o n : Tm}, 0 ≤ (o.val F).i → 0 ≤ (n.val F).i →
    ((dsub R t o n).val F).d = slice (t.val F).d (o.val F).i.toNat (n.val F).i.toNat := by
  intro t
  induction t with
  | app s r _ ih =>
    intro o n ho hn
    simp only [dsub]
    have hl := lenT_ok hR s
    split
    · rename_i h
      have h1 := leq_ok hR h
      rw [hl] at h1
      rw [ih (by rw [lsub_val, hl]; omega) hn, lsub_val, hl]
      simp only [Tm.val, Dat.d_bytes]
      rw [slice_app_right _ _ _ _ (by omega)]
      congr 1; omega
    split
    · rename_i h
      have h1 := leq_ok hR h
      rw [hl, ladd_val] at h1
      rw [cut_ok hR ho hn]
      simp only [Tm.val, Dat.d_bytes]
      rw [slice_app_left _ _ _ _ (by omega)]
    split
    · rename_i h
      simp only [Bool.and_eq_true] at h
      have h1 := leq_ok hR h.1
      have h2 := leq_ok hR h.2
      rw [hl] at h1
      rw [hl, ladd_val] at h2
      rw [dapp_ok, cut_ok hR ho (by rw [lsub_val, hl]; omega), ih (by simp [Tm.val]) (by rw [lsub_val, ladd_val, hl]; omega), lsub_val, lsub_val, ladd_val, hl]
      simp only [Tm.val, Dat.d_bytes, Dat.i_int]
      rw [slice_app_over _ _ _ _ (by omega) (by omega)]
      congr 2 <;> (try congr 1) <;> omega
    · rfl
  | _ => intro o n ho hn; exact cut_ok hR ho hn

def datA (R : Facts) (s i : Tm) : Tm := match s with
  | .bs l => match i with
    | .lit j => .lit (l.getD j.toNat 0).toNat
    | _ => .idx s i
  | .one e => if isZ R i && (rng R e).within 0 255 then e else .idx s i
  | .zeros _ => .lit 0
  | .sub d o n => if nn R o && leq R (ladd i (.lit 1)) n then .idx d (ladd o i) else .idx s i
  | s => .idx s i
theorem datA_ok (hR : FOK F R) {s i : Tm} (hi : 0 ≤ (i.val F).i) : ((datA R s i).val F).i = (((s.val F).d.getD (i.val F).i.toNat 0).toNat : Int) := by
  unfold datA
  split
  · split <;> rfl
  · rename_i e
    split
    · rename_i h
      simp only [Bool.and_eq_true] at h
      have h1 := isZ_ok hR h.1
      have h2 := Iv.within_ok h.2 (rng_ok hR e)
      rw [h1]
      simp only [Tm.val, Dat.d_bytes, Int.toNat_zero, List.getD_cons_zero]
      rw [UInt8.toNat_ofNat']
      have : (e.val F).i.toNat % 2 ^ 8 = (e.val F).i.toNat := Nat.mod_eq_of_lt (by omega)
      rw [this]; omega
    · rfl
  · rename_i n
    simp only [Tm.val, Dat.d_bytes, Dat.i_int, List.getD]
    rw [List.getElem?_replicate]
    split <;> rfl
  · rename_i d o n
    split
    · rename_i h
      simp only [Bool.and_eq_true] at h
      have h1 := nn_ok hR h.1
      have h2 := leq_ok hR h.2
      rw [ladd_val] at h2
      simp only [Tm.val, Dat.i_int] at h2
      simp only [Tm.val, Dat.d_bytes, Dat.i_int, ladd_val]
      have hlt : (i.val F).i.toNat < (n.val F).i.toNat := by omega
      rw [List.getD, List.getD, slice_get _ _ _ _ hlt, Int.toNat_add h1 hi]
      rfl
    · rfl
  · rfl
def dat (R : Facts) : Tm → Tm → Tm
  | .app s r, i =>
    let ls := lenT R s
    if leq R ls i then dat R r (lsub i ls)
    else if leq R (ladd i (.lit 1)) ls then datA R s i
    else .idx (.app s r) i
  | s, i => datA R s i
theorem dat_ok (hR : FOK F R) : ∀ (t : Tm) {i : Tm}, 0 ≤ (i.val F).i → ((dat R t i).val F).i = (((t.val F).d.getD (i.val F).i.toNat 0).toNat : Int) := by
  intro t
  induction t with
  | app s r _ ih =>
    intro i hi
    simp only [dat]
    have hl := lenT_ok hR s
    split
    · rename_i h
      have h1 := leq_ok hR h
      rw [hl] at h1
      rw [ih (by rw [lsub_val, hl]; omega), lsub_val, hl]
      simp only [Tm.val, Dat.d_bytes, List.getD, List.getElem?_append]
      rw [if_neg (by omega)]
      congr 4; omega
    split
    · rename_i h
      have h1 := leq_ok hR h
      rw [hl, ladd_val] at h1
      simp only [Tm.val, Dat.i_int] at h1
      rw [datA_ok hR hi]
      simp only [Tm.val, Dat.d_bytes, List.getD, List.getElem?_append]
      rw [if_pos (by omega)]
    · rfl
  | _ => intro i hi; exact datA_ok hR hi

/-- A row with other bytes from a place on. -/
def dupd (R : Facts) (t o src : Tm) : Tm :=
  let e := ladd o (lenT R src)
  dapp (dsub R t (.lit 0) o) (dapp src (dsub R t e (lsub (lenT R t) e)))
theorem dupd_ok (hR : FOK F R) {t o src : Tm} (ho : 0 ≤ (o.val F).i) (hle : (o.val F).i + ((src.val F).d.length : Int) ≤ ((t.val F).d.length : Int)) :
    ((dupd R t o src).val F).d = (t.val F).d.take (o.val F).i.toNat ++ (src.val F).d ++ (t.val F).d.drop ((o.val F).i.toNat + (src.val F).d.length) := by
  have hs := lenT_ok hR src
  have ht := lenT_ok hR t
  have he : ((ladd o (lenT R src)).val F).i = (o.val F).i + ((src.val F).d.length : Int) := by rw [ladd_val, hs]
  simp only [dupd]
  rw [dapp_ok, dapp_ok, dsub_ok hR _ (by simp [Tm.val]) ho, dsub_ok hR _ (by rw [he]; omega) (by rw [lsub_val, he, ht]; omega), lsub_val, he, ht]
  simp only [Tm.val, Dat.i_int, Int.toNat_zero]
  rw [slice_eq (by omega), slice_eq (by omega)]
  rw [List.drop_zero, List.append_assoc]
  congr 2
  rw [List.take_of_length_le (by simp; omega)]
  congr 1; omega
end Go.Sy
