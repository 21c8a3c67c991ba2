/- Addresses of fields and elements, parts, cuts, conversions, lengths, maps, iterators: the evaluator's and the model's agree. Conditions: the named integers lie in the ranges that were told. -/
import Derived.Test.YtpjakhjaicegjaaGreatDoorSy5
namespace Go.Sy
open Go.RowKit
variable {S : Sg}
noncomputable section

def AV.at_ : AV → Nat → Option AV
  | .ptr id off, k => some (.ptr id (off + k))
  | .gptr g off, k => some (.gptr g (off + k))
  | _, _ => none

def evFieldAddr (P : Program) (t : TypeId) (x : AV) (i : Nat) : Option AV :=
  match P.underlying t with
  | some (.struct fs) =>
    match fs[i]? with
    | some f =>
      match sizeT P f.type with
      | some 0 => none
      | some _ => x.at_ f.offset
      | none => none
    | none => none
  | _ => none

def evPart (P : Program) (t : TypeId) (cs : List AV) (off : Nat) : Option AV :=
  match isAggT P t with
  | some true => match sizeT P t with
    | some n => if off + n ≤ cs.length then some (.agg ((cs.drop off).take n)) else none
    | none => none
  | some false => cs[off]?
  | none => none

def evField (P : Program) (t : TypeId) (x : AV) (i : Nat) : Option AV :=
  match P.underlying t, x with
  | some (.struct fs), .agg cs =>
    match fs[i]? with
    | some f => evPart P f.type cs f.offset
    | none => none
  | _, _ => none

def viewAddr (R : Facts) (id : Nat) (off len i : Tm) (ro : Bool) : Option AV :=
  if nn R i && leq R (ladd i (.lit 1)) len then some (.dp id (ladd off i) ro) else none
def evIndexAddr0 (P : Program) (t : TypeId) (x ix : AV) : Option AV :=
  match ix with
  | .int _ (.lit i) =>
    match P.underlying t, x with
    | some (.slice e), .sl id off len _ =>
      match sizeT P e with
      | some n => if 0 ≤ i ∧ i < len then some (.ptr id (off + i.toNat * n)) else none
      | none => none
    | some (.array len e), x =>
      match sizeT P e with
      | some n => if 0 ≤ i ∧ i < len then x.at_ (i.toNat * n) else none
      | none => none
    | _, _ => none
  | _ => none
/-- A place of an array in memory, by a number that is not known. -/
def evIndexArr (P : Program) (R : Facts) (t : TypeId) (x ix : AV) : Option AV :=
  match x, ix with
  | .ptr id off, .int _ i => match P.underlying t with
    | some (.array len e) => if decide (sizeT P e = some 1) && nn R i && leq R (ladd i (.lit 1)) (.lit len) then some (.dp id (ladd (.lit off) i) false) else none
    | _ => none
  | _, _ => none
def evIndexAddr (P : Program) (R : Facts) (t : TypeId) (x ix : AV) : Option AV :=
  match x, ix with
  | .vw id off len _, .int _ i => match P.underlying t with
    | some (.slice e) => if sizeT P e = some 1 then viewAddr R id off len i false else none
    | _ => none
  | .rv id off len, .int _ i => match P.underlying t with
    | some (.slice e) => if sizeT P e = some 1 then viewAddr R id off len i true else none
    | _ => none
  | x, ix => match evIndexAddr0 P t x ix with
    | some r => some r
    | none => evIndexArr P R t x ix

def evTab (P : Program) (R : Facts) (t : TypeId) (cs : List AV) (i : Tm) : Option AV :=
  match P.underlying t, cs with
  | some (.array len e), .int k x :: rest =>
    match sizeT P e, isAggT P e, litsOf k (.int k x :: rest) with
    | some 1, some false, some ns => if nn R i && leq R (ladd i (.lit 1)) (.lit len) && decide (len ≤ ns.length) then some (.int k (.tab ns i)) else none
    | _, _, _ => none
  | _, _ => none
def evIndexS (P : Program) (R : Facts) (t : TypeId) (s i : Tm) : Option AV :=
  match P.underlying t with
  | some .string => if nn R i && leq R (ladd i (.lit 1)) (lenT R s) then some (.int .u8 (dat R s i)) else none
  | _ => none
def evIndex0 (P : Program) (t : TypeId) (x ix : AV) : Option AV :=
  match ix with
  | .int _ (.lit i) =>
    match P.underlying t, x with
    | some (.array len e), .agg cs =>
      match sizeT P e with
      | some n => if 0 ≤ i ∧ i < len then evPart P e cs (i.toNat * n) else none
      | none => none
    | some .string, .str s =>
      if 0 ≤ i then match s[i.toNat]? with
        | some b => some (.int .u8 (.lit b.toNat))
        | none => none
      else none
    | _, _ => none
  | _ => none
def evIndex (P : Program) (R : Facts) (t : TypeId) (x ix : AV) : Option AV :=
  match evIndex0 P t x ix with
  | some r => some r
  | none => match x, ix with
    | .agg cs, .int _ i => evTab P R t cs i
    | .str s, .int _ i => evIndexS P R t (.bs s) i
    | .ts s, .int _ i => evIndexS P R t s i
    | _, _ => none

/-- A bound: absent, or a known number. -/
def bnd : Option AV → Option (Option Nat)
  | none => some none
  | some (.int _ (.lit i)) => if 0 ≤ i then some (some i.toNat) else none
  | _ => none

/-- A bound: absent, or a term. -/
def bndT : Option AV → Option (Option Tm)
  | none => some none
  | some (.int _ i) => some (some i)
  | _ => none
def CapV.sure : CapV → Bool
  | .any => false
  | _ => true
def capCut (R : Facts) (cap : CapV) (len l h : Tm) : CapV := match cap with
  | .rest => if isZ R l || leq R (ladd l (.lit 1)) len then .rest else .any
  | .tight => if (isZ R l || leq R (ladd l (.lit 1)) len) && isZ R (lsub len h) then .tight else .any
  | .any => .any
def viewCut (R : Facts) (off len : Tm) (cap : CapV) (lo hi mx : Option Tm) : Option (Tm × Tm × CapV) :=
  let l := lo.getD (.lit 0)
  let h := hi.getD len
  if nn R l && leq R l h then
    match mx with
    | none => if leq R h len then some (ladd off l, lsub h l, capCut R cap len l h) else none
    | some m => if hi.isSome && leq R h m && leq R m len then some (ladd off l, lsub h l, if cap.sure && isZ R (lsub m h) && (isZ R l || leq R (ladd l (.lit 1)) m) then .tight else .any) else none
  else none
def textCut (R : Facts) (t : Tm) (lo hi : Option Tm) : Option AV :=
  let l := lo.getD (.lit 0)
  let h := hi.getD (lenT R t)
  if nn R l && leq R l h && leq R h (lenT R t) then some (mkS (dsub R t l (lsub h l))) else none

def evSlice0 (P : Program) (s : AS) (t : TypeId) (x : AV) (lo hi mx : Option AV) : Option AV :=
  match P.underlying t, bnd lo, bnd hi, bnd mx with
  | some (.slice e), some lo, some hi, some mx =>
    match sizeT P e, x with
    | some n, .sl id off len (.lit c) =>
      let m := mx.getD c
      let h := hi.getD len
      let l := lo.getD 0
      if m ≤ c ∧ h ≤ m ∧ l ≤ h ∧ (mx.isSome = true → hi.isSome = true) then some (.sl id (if m = l then off else off + l * n) (h - l) (.lit (m - l))) else none
    | some n, .sl id off len (.rest sub) =>
      let h := hi.getD len
      let l := lo.getD 0
      match s.get id with
      | some (.row vs _ n') =>
        if n' = n ∧ off = sub * n ∧ off + len * n ≤ vs.length ∧ 0 < n then
          match mx with
          | none => if h ≤ len ∧ l ≤ h ∧ (l = 0 ∨ l < len) then some (.sl id (off + l * n) (h - l) (.rest (sub + l))) else none
          | some m => if m ≤ len ∧ h ≤ m ∧ l ≤ h ∧ hi.isSome = true then some (.sl id (if m = l then off else off + l * n) (h - l) (.lit (m - l))) else none
        else none
      | _ => none
    | some _, .nilsl => if lo.getD 0 = 0 ∧ hi.getD 0 = 0 ∧ mx = none then some .nilsl else none
    | _, _ => none
  | some .string, some lo, some hi, some none =>
    match x with
    | .str s =>
      let h := hi.getD s.length
      let l := lo.getD 0
      if h ≤ s.length ∧ l ≤ h then some (.str ((s.take h).drop l)) else none
    | _ => none
  | _, _, _, _ => none
/-- A part of an array. -/
def evSliceA (P : Program) (t : TypeId) (id off : Nat) (lo hi mx : Option AV) : Option AV :=
  match P.underlying t, bnd lo, bnd hi, bnd mx with
  | some (.array n e), some lo, some hi, some mx =>
    match sizeT P e with
    | some sz =>
      let m := mx.getD n
      let h := hi.getD n
      let l := lo.getD 0
      if m ≤ n ∧ h ≤ m ∧ l ≤ h ∧ (mx.isSome = true → hi.isSome = true) then some (.sl id (if m = l then off else off + l * sz) (h - l) (.lit (m - l))) else none
    | none => none
  | _, _, _, _ => none
def evSlice (P : Program) (R : Facts) (s : AS) (t : TypeId) (x : AV) (lo hi mx : Option AV) : Option AV :=
  match x with
  | .ptr id off => evSliceA P t id off lo hi mx
  | .vw id off len cap => match P.underlying t, bndT lo, bndT hi, bndT mx with
    | some (.slice e), some lo, some hi, some mx => if sizeT P e = some 1 then match viewCut R off len cap lo hi mx with
      | some (o, n, c) => some (.vw id o n c)
      | none => none
      else none
    | _, _, _, _ => none
  | .rv id off len => match P.underlying t, bndT lo, bndT hi, bndT mx with
    | some (.slice e), some lo, some hi, some mx => if sizeT P e = some 1 then match viewCut R off len .any lo hi mx with
      | some (o, n, .any) => some (.rv id o n)
      | _ => none
      else none
    | _, _, _, _ => none
  | .ts u => match P.underlying t, bndT lo, bndT hi, mx with
    | some .string, some lo, some hi, none => textCut R u lo hi
    | _, _, _, _ => none
  | .str u => match evSlice0 P s t (.str u) lo hi mx with
    | some r => some r
    | none => match P.underlying t, bndT lo, bndT hi, mx with
      | some .string, some lo, some hi, none => textCut R (.bs u) lo hi
      | _, _, _, _ => none
  | x => evSlice0 P s t x lo hi mx

section
variable {F : Fix S} {A : Nat → Prop} {w0 : World} {σ : Sig} {w : World} {s : AS} {P : Program} {R : Facts}

theorem at_ok {x r : AV} {k : Nat} (h : x.at_ k = some r) {v : Value} (hx : VR F σ x v) : ∃ a : Addr, v = .pointer (some a) ∧ VR F σ r (.pointer (some (a.add k))) := by
  unfold AV.at_ at h
  split at h
  · simp only [Option.some.injEq] at h
    subst h
    simp only [VR] at hx ⊢
    obtain ⟨b, κ, hb, rfl⟩ := hx
    exact ⟨_, rfl, b, κ, hb, by rw [Addr.add_lit]⟩
  · simp only [Option.some.injEq] at h
    subst h
    simp only [VR] at hx ⊢
    subst hx
    exact ⟨_, rfl, by rw [Addr.add_lit]⟩
  · cases h

theorem fieldAddr_ok {t : TypeId} {x r : AV} {i : Nat} (h : evFieldAddr P t x i = some r) {v : Value} (hx : VR F σ x v) (w : World) :
    ∃ rv, (Instr.fieldAt t v i).run P w = .ok rv w ∧ VR F σ r rv := by
  unfold evFieldAddr at h
  split at h
  · rename_i fs hu
    split at h
    · rename_i f hf
      split at h
      · cases h
      · rename_i n hn hsz
        obtain ⟨a, rfl, hr⟩ := at_ok h hx
        refine ⟨_, ?_, hr⟩
        have h0 : n ≠ 0 := fun e => hn (by rw [e])
        simp [Instr.fieldAt, run_underlying hu, hf, Instr.sureAddr, fieldPlace, run_sizeT hsz, h0]
      · cases h
    · cases h
  · cases h

theorem part_ok {t : TypeId} {cs : List AV} {off : Nat} {r : AV} (h : evPart P t cs off = some r) {l : Array Value} (hx : VRs F σ cs l.toList) (w : World) :
    ∃ rv, (part t l off).run P w = .ok rv w ∧ VR F σ r rv := by
  unfold evPart at h
  split at h
  · rename_i hagg
    split at h
    · rename_i n hn
      split at h
      · simp only [Option.some.injEq] at h
        subst h
        refine ⟨.agg (l.extract off (off + n)), by simp [part, run_isAggT hagg, run_sizeT hn], ?_⟩
        simp only [VR]
        refine ⟨_, (hx.drop off).take n, ?_⟩
        congr 1
        apply Array.ext'
        simp [List.extract_eq_take_drop]
      · cases h
    · cases h
  · rename_i hagg
    obtain ⟨y, hy, hr⟩ := hx.get off r h
    refine ⟨y, ?_, hr⟩
    have hy' : l[off]? = some y := by simpa using hy
    simp [part, run_isAggT hagg, hy']
  · cases h

theorem field_ok {t : TypeId} {x r : AV} {i : Nat} (h : evField P t x i = some r) {v : Value} (hx : VR F σ x v) (w : World) :
    ∃ rv, (Instr.field t v i).run P w = .ok rv w ∧ VR F σ r rv := by
  unfold evField at h
  split at h
  · rename_i fs cs hu
    split at h
    · rename_i f hf
      simp only [VR] at hx
      obtain ⟨l, hl, rfl⟩ := hx
      obtain ⟨rv, h1, h2⟩ := part_ok h (l := l.toArray) (by simpa using hl) w
      exact ⟨rv, by simp [Instr.field, run_underlying hu, hf, asAgg, h1], h2⟩
    · cases h
  · cases h

theorem viewAddr_ok (hR : FOK F R) {id : Nat} {off len i : Tm} {ro : Bool} {r : AV} (h : viewAddr R id off len i ro = some r) {b κ κ' : Nat} (hb : σ id = some (b, κ)) {cap : CapV} {v : Value}
    (hv : ViewAt F b (cond ro κ 0) κ' off len cap v) : ∃ (a : Addr) (n c j : Nat), v = .slice (some a) n c ∧ (i.val F).i = (j : Int) ∧ j < n ∧ VR F σ r (.pointer (some (a.add j))) := by
  unfold viewAddr at h
  split at h
  · rename_i hc
    simp only [Bool.and_eq_true] at hc
    have h1 := nn_ok hR hc.1
    have h2 := leq_ok hR hc.2
    rw [ladd_val] at h2
    simp only [Tm.val, Dat.i_int] at h2
    simp only [Option.some.injEq] at h
    subst h
    obtain ⟨o, n, c, ho, hn, hv⟩ := hv
    have key : VR F σ (.dp id (ladd off i) ro) (.pointer (some ((⟨b, cond ro κ 0 + o, none⟩ : Addr).add (i.val F).i.toNat))) := by
      simp only [VR]
      refine ⟨b, κ, hb, o + (i.val F).i.toNat, ?_, ?_⟩
      · rw [ladd_val, ho]; omega
      · rw [Addr.add_lit, Nat.add_assoc]
    have hj : (i.val F).i = ((i.val F).i.toNat : Int) := by omega
    cases cap with
    | rest => exact ⟨_, n, c, _, hv.1, hj, by omega, key⟩
    | tight => exact ⟨_, n, c, _, hv.1, hj, by omega, key⟩
    | any =>
      rcases hv with hv | ⟨rfl, _⟩
      · exact ⟨_, n, c, _, hv.1, hj, by omega, key⟩
      · omega
  · cases h

theorem indexAddr0_ok {t : TypeId} {x ix r : AV} (h : evIndexAddr0 P t x ix = some r) {v vi : Value} (hx : VR F σ x v) (hi : VR F σ ix vi) (w : World) :
    ∃ rv, (Instr.indexAt t v vi).run P w = .ok rv w ∧ VR F σ r rv := by
  unfold evIndexAddr0 at h
  split at h
  · rename_i k i
    simp only [VR, Tm.val, Dat.i_int] at hi
    subst hi
    split at h
    · rename_i e id off len cap hu
      split at h
      · rename_i n hn
        split at h
        · rename_i hc
          simp only [Option.some.injEq] at h
          subst h
          simp only [VR] at hx
          obtain ⟨b, κ, hb, rfl⟩ := hx
          refine ⟨_, by simp [Instr.indexAt, run_underlying hu, asIntOf, hc, run_sizeT hn]; rfl, ?_⟩
          simp only [VR]
          exact ⟨b, κ, hb, by rw [Addr.add_lit]⟩
        · cases h
      · cases h
    · rename_i len e hu
      split at h
      · rename_i n hn
        split at h
        · rename_i hc
          obtain ⟨a, rfl, hr⟩ := at_ok h hx
          exact ⟨_, by simp [Instr.indexAt, run_underlying hu, asIntOf, hc, run_sizeT hn, Instr.sureAddr], hr⟩
        · cases h
      · cases h
    · cases h
  · cases h

theorem indexArr_ok (hR : FOK F R) {t : TypeId} {x ix r : AV} (h : evIndexArr P R t x ix = some r) {v vi : Value} (hx : VR F σ x v) (hi : VR F σ ix vi) (w : World) :
    ∃ rv, (Instr.indexAt t v vi).run P w = .ok rv w ∧ VR F σ r rv := by
  unfold evIndexArr at h
  split at h
  · rename_i id off k i
    split at h
    · rename_i len e hu
      split at h
      · rename_i hc
        simp only [Bool.and_eq_true, decide_eq_true_eq] at hc
        obtain ⟨⟨hs, h1⟩, h2⟩ := hc
        have h1 := nn_ok hR h1
        have h2 := leq_ok hR h2
        rw [ladd_val] at h2
        simp only [Tm.val, Dat.i_int] at h2
        simp only [Option.some.injEq] at h
        subst h
        simp only [VR] at hx hi
        obtain ⟨b, κ, hb, rfl⟩ := hx
        subst hi
        have hcc : (0 : Int) ≤ (i.val F).i ∧ (i.val F).i < (len : Int) := by omega
        refine ⟨_, by simp [Instr.indexAt, run_underlying hu, asIntOf, hcc, run_sizeT hs, Instr.sureAddr]; rfl, ?_⟩
        simp only [VR]
        refine ⟨b, κ, hb, off + (i.val F).i.toNat, ?_, ?_⟩
        · rw [ladd_val]; simp only [Tm.val, Dat.i_int]; omega
        · rw [Addr.add_lit]; simp
      · cases h
    · cases h
  · cases h
theorem indexAddr_ok (hR : FOK F R) {t : TypeId} {x ix r : AV} (h : evIndexAddr P R t x ix = some r) {v vi : Value} (hx : VR F σ x v) (hi : VR F σ ix vi) (w : World) :
    ∃ rv, (Instr.indexAt t v vi).run P w = .ok rv w ∧ VR F σ r rv := by
  unfold evIndexAddr at h
  have view : ∀ {e : TypeId} {id : Nat} {off len i : Tm} {cap : CapV} {ro : Bool} {k : IntKind} {b κ κ' : Nat}, P.underlying t = some (.slice e) → sizeT P e = some 1 → viewAddr R id off len i ro = some r → vi = .int k (i.val F).i → σ id = some (b, κ) →
      ViewAt F b (cond ro κ 0) κ' off len cap v → ∃ rv, (Instr.indexAt t v vi).run P w = .ok rv w ∧ VR F σ r rv := by
    intro e id off len i cap ro k b κ κ' hu hs hva hvi hb hv
    obtain ⟨a, n, c, j, rfl, hj, hjn, hr⟩ := viewAddr_ok hR hva hb hv
    subst hvi
    have hc : (0 : Int) ≤ (j : Int) ∧ (j : Int) < (n : Int) := by omega
    exact ⟨_, by simp [Instr.indexAt, run_underlying hu, asIntOf, hj, run_sizeT hs, hjn], hr⟩
  split at h
  · rename_i id off len cap k i
    split at h
    · rename_i e hu
      split at h
      · rename_i hs
        simp only [VR] at hx hi
        obtain ⟨b, κ, hb, hv⟩ := hx
        exact view hu hs h hi hb hv
      · cases h
    · cases h
  · rename_i id off len k i
    split at h
    · rename_i e hu
      split at h
      · rename_i hs
        simp only [VR] at hx hi
        obtain ⟨b, κ, hb, hv⟩ := hx
        exact view (ro := true) hu hs h hi hb hv
      · cases h
    · cases h
  · split at h
    · rename_i r' hr'
      simp only [Option.some.injEq] at h
      subst h
      exact indexAddr0_ok hr' hx hi w
    · exact indexArr_ok hR h hx hi w

theorem tab_ok (hR : FOK F R) {t : TypeId} {cs : List AV} {i : Tm} {r : AV} (h : evTab P R t cs i = some r) {l : List Value} (hl : VRs F σ cs l) (k : IntKind) (w : World) :
    ∃ rv, (Instr.index t (.agg l.toArray) (.int k (i.val F).i)).run P w = .ok rv w ∧ VR F σ r rv := by
  unfold evTab at h
  split at h
  · rename_i len e k' x rest hu
    split at h
    · rename_i ns hs hagg hns
      split at h
      · rename_i hc
        simp only [Bool.and_eq_true, decide_eq_true_eq] at hc
        have h1 := nn_ok hR hc.1.1
        have h2 := leq_ok hR hc.1.2
        rw [ladd_val] at h2
        simp only [Tm.val, Dat.i_int] at h2
        simp only [Option.some.injEq] at h
        subst h
        have hll := litsOf_ok hns hl
        subst hll
        have hlt : (i.val F).i.toNat < ns.length := by omega
        have hb : 0 ≤ (i.val F).i ∧ (i.val F).i < (len : Int) := by omega
        refine ⟨.int k' (ns.getD (i.val F).i.toNat 0), ?_, by simp only [VR, Tm.val, Dat.i_int]⟩
        have hg : ((ns.map (Value.int k')).toArray)[(i.val F).i.toNat]? = some (.int k' (ns.getD (i.val F).i.toNat 0)) := by
          simp [List.getD, List.getElem?_eq_getElem hlt]
        generalize (ns.map (Value.int k')).toArray = arr at hg ⊢
        have hidx : (part e arr ((i.val F).i.toNat * 1)).run P w = .ok (.int k' (ns.getD (i.val F).i.toNat 0)) w := by
          simp only [part, Sem.run_bind, run_isAggT hagg, Result.andThen_ok, Bool.false_eq_true, if_false, Nat.mul_one, hg, Sem.run_pure]
        simp [Instr.index, run_underlying hu, asIntOf, hb, run_sizeT hs] at hidx ⊢
        exact hidx
      · cases h
    · cases h
  · cases h
theorem indexS_ok (hR : FOK F R) {t : TypeId} {s i : Tm} {r : AV} (h : evIndexS P R t s i = some r) (k : IntKind) (w : World) :
    ∃ rv, (Instr.index t (.string (bytesOf (s.val F).d)) (.int k (i.val F).i)).run P w = .ok rv w ∧ VR F σ r rv := by
  unfold evIndexS at h
  split at h
  · rename_i hu
    split at h
    · rename_i hc
      simp only [Bool.and_eq_true] at hc
      have h1 := nn_ok hR hc.1
      have h2 := leq_ok hR hc.2
      rw [ladd_val, lenT_ok hR] at h2
      simp only [Tm.val, Dat.i_int] at h2
      simp only [Option.some.injEq] at h
      subst h
      have hlt : (i.val F).i.toNat < (s.val F).d.length := by omega
      have hg : (bytesOf (s.val F).d)[(i.val F).i.toNat]? = some ((s.val F).d.getD (i.val F).i.toNat 0) := by
        have hsz : (bytesOf (s.val F).d).size = (s.val F).d.length := by simp [bytesOf, ByteArray.size]
        rw [getElem?_pos (bytesOf (s.val F).d) (i.val F).i.toNat (by rw [hsz]; exact hlt)]
        congr 1
        rw [List.getD, List.getElem?_eq_getElem hlt]
        rfl
      exact ⟨.int .u8 ((s.val F).d.getD (i.val F).i.toNat 0).toNat, by simp [Instr.index, run_underlying hu, asIntOf, h1, hg], by simp only [VR]; rw [dat_ok hR s h1]⟩
    · cases h
  · cases h

theorem index0_ok {t : TypeId} {x ix r : AV} (h : evIndex0 P t x ix = some r) {v vi : Value} (hx : VR F σ x v) (hi : VR F σ ix vi) (w : World) :
    ∃ rv, (Instr.index t v vi).run P w = .ok rv w ∧ VR F σ r rv := by
  unfold evIndex0 at h
  split at h
  · rename_i k i
    simp only [VR, Tm.val, Dat.i_int] at hi
    subst hi
    split at h
    · rename_i len e cs hu
      split at h
      · rename_i n hn
        split at h
        · rename_i hc
          simp only [VR] at hx
          obtain ⟨l, hl, rfl⟩ := hx
          obtain ⟨rv, h1, h2⟩ := part_ok h (l := l.toArray) (by simpa using hl) w
          exact ⟨rv, by simp [Instr.index, run_underlying hu, asIntOf, hc, run_sizeT hn, h1], h2⟩
        · cases h
      · cases h
    · rename_i str hu
      split at h
      · rename_i h0
        split at h
        · rename_i b hb
          simp only [Option.some.injEq] at h
          subst h
          simp only [VR] at hx
          subst hx
          have hg : (bytesOf str)[i.toNat]? = some b := by
            have hlt := (List.getElem?_eq_some_iff.1 hb).1
            have hv := (List.getElem?_eq_some_iff.1 hb).2
            have hsz : (bytesOf str).size = str.length := by simp [bytesOf, ByteArray.size]
            rw [getElem?_pos (bytesOf str) i.toNat (by rw [hsz]; exact hlt)]
            congr 1
          refine ⟨.int .u8 b.toNat, by simp [Instr.index, run_underlying hu, asIntOf, h0, hg], by simp only [VR, Tm.val, Dat.i_int]⟩
        · cases h
      · cases h
    · cases h
  · cases h

theorem index_ok (hR : FOK F R) {t : TypeId} {x ix r : AV} (h : evIndex P R t x ix = some r) {v vi : Value} (hx : VR F σ x v) (hi : VR F σ ix vi) (w : World) :
    ∃ rv, (Instr.index t v vi).run P w = .ok rv w ∧ VR F σ r rv := by
  unfold evIndex at h
  split at h
  · rename_i r' h0
    simp only [Option.some.injEq] at h
    subst h
    exact index0_ok h0 hx hi w
  · split at h
    · simp only [VR] at hx hi
      obtain ⟨l, hl, rfl⟩ := hx
      subst hi
      exact tab_ok hR h hl _ w
    · simp only [VR] at hx hi
      subst hx hi
      exact indexS_ok (s := .bs _) hR h _ w
    · simp only [VR] at hx hi
      subst hx hi
      exact indexS_ok hR h _ w
    · cases h

def OVR (F : Fix S) (σ : Sig) : Option AV → Option Value → Prop
  | none, v => v = none
  | some x, some y => VR F σ x y
  | some _, none => False

theorem bnd_ok {o : Option AV} {m : Option Nat} (h : bnd o = some m) {v : Option Value} (hv : OVR F σ o v) :
    (m = none ∧ v = none) ∨ ∃ n k, m = some n ∧ v = some (.int k (n : Int)) := by
  cases o with
  | none =>
    simp only [bnd, Option.some.injEq] at h
    subst h
    exact .inl ⟨rfl, hv⟩
  | some x =>
    cases v with
    | none => exact hv.elim
    | some y =>
      unfold bnd at h
      split at h
      · rename_i e; cases e
      · rename_i k i e
        simp only [Option.some.injEq] at e
        subst e
        split at h
        · rename_i h0
          simp only [Option.some.injEq] at h
          subst h
          simp only [OVR, VR, Tm.val, Dat.i_int] at hv
          subst hv
          exact .inr ⟨i.toNat, k, rfl, by rw [Int.toNat_of_nonneg h0]⟩
        · cases h
      · cases h
/-- A bound that is a term. -/
theorem bndT_ok {o : Option AV} {m : Option Tm} (h : bndT o = some m) {v : Option Value} (hv : OVR F σ o v) (hnn : ∀ t, m = some t → 0 ≤ (t.val F).i) :
    ((m.map fun t => (t.val F).i.toNat) = none ∧ v = none) ∨ ∃ n k, (m.map fun t => (t.val F).i.toNat) = some n ∧ v = some (.int k (n : Int)) := by
  cases o with
  | none =>
    simp only [bndT, Option.some.injEq] at h
    subst h
    exact .inl ⟨rfl, hv⟩
  | some x =>
    cases v with
    | none => exact hv.elim
    | some y =>
      unfold bndT at h
      split at h
      · rename_i e; cases e
      · rename_i k i e
        simp only [Option.some.injEq] at e h
        subst e h
        simp only [OVR, VR] at hv
        subst hv
        have := hnn i rfl
        exact .inr ⟨(i.val F).i.toNat, k, rfl, by rw [Int.toNat_of_nonneg this]⟩
      · cases h

theorem run_bounds (isSlice : Bool) (len cap : Nat) {lo hi mx : Option Nat} {vl vh vm : Option Value} (hl : (lo = none ∧ vl = none) ∨ ∃ n k, lo = some n ∧ vl = some (.int k (n : Int)))
    (hh : (hi = none ∧ vh = none) ∨ ∃ n k, hi = some n ∧ vh = some (.int k (n : Int))) (hm : (mx = none ∧ vm = none) ∨ ∃ n k, mx = some n ∧ vm = some (.int k (n : Int)))
    (h1 : mx.getD cap ≤ cap) (h2 : hi.getD len ≤ mx.getD cap) (h3 : lo.getD 0 ≤ hi.getD len) (h4 : mx.isSome = true → hi.isSome = true) (w : World) :
    (Instr.sliceBounds isSlice len cap vl vh vm).run P w = .ok (lo.getD 0, hi.getD len, mx.getD cap) w := by
  have sb : ∀ (k : IntKind) (n y : Nat) (code : BoundsCode), n ≤ y → (Instr.sliceBound (.int k (n : Int)) y code).run P w = .ok n w := by
    intro k n y code hn
    have := run_sliceBound (P := P) (w := w) k (n : Int) y code (by omega) (by omega)
    simpa using this
  rcases hl with ⟨rfl, rfl⟩ | ⟨l, kl, rfl, rfl⟩ <;> rcases hh with ⟨rfl, rfl⟩ | ⟨h, kh, rfl, rfl⟩ <;> rcases hm with ⟨rfl, rfl⟩ | ⟨m, km, rfl, rfl⟩ <;>
    simp only [Option.getD_some, Option.getD_none, Option.isSome_some, Option.isSome_none, forall_const, Bool.false_eq_true] at h1 h2 h3 h4 <;>
    simp [Instr.sliceBounds, sb, h1, h2, h3]

theorem slice0_ok {t : TypeId} {x r : AV} {lo hi mx : Option AV} (h : evSlice0 P s t x lo hi mx = some r) {v : Value} {vl vh vm : Option Value} (hx : VR F σ x v) (hl : OVR F σ lo vl) (hh : OVR F σ hi vh) (hm : OVR F σ mx vm)
    (hrep : Rep F A w0 σ w s) : ∃ rv, (Instr.sliceAt t v vl vh vm).run P w = .ok rv w ∧ VR F σ r rv := by
  have hsa : ∀ x, (Instr.sliceAt t x vl vh vm) = (do match ← underlying t with
      | .array n elem =>
        let a ← Instr.sureAddr x
        let (l, h, m) ← Instr.sliceBounds false n n vl vh vm
        let size ← sizeOf elem
        pure (.slice (some (if m = l then a else a.add (l * size))) (h - l) (m - l))
      | _ => Instr.slice t x vl vh vm) := fun _ => rfl
  unfold evSlice0 at h
  split at h
  · rename_i e nl nh nm hu hbl hbh hbm
    have bl := bnd_ok hbl hl
    have bh := bnd_ok hbh hh
    have bm := bnd_ok hbm hm
    split at h
    · rename_i n id off len c hn
      simp only [] at h
      split at h
      · rename_i hc
        obtain ⟨h1, h2, h3, h4⟩ := hc
        simp only [Option.some.injEq] at h
        subst h
        simp only [VR, CapE.val] at hx
        obtain ⟨b, κ, hb, rfl⟩ := hx
        have hrun := run_bounds (P := P) true len c bl bh bm h1 h2 h3 h4 w
        refine ⟨_, by simp [hsa, Instr.slice, run_underlying hu, hrun, run_sizeT hn]; rfl, ?_⟩
        simp only [VR, CapE.val]
        refine ⟨b, κ, hb, ?_⟩
        split
        · rfl
        · simp [Addr.add_lit]
      · cases h
    · rename_i n id off len sub hn
      simp only [] at h
      split at h
      · rename_i vs e' n' ho
        split at h
        · rename_i hc
          obtain ⟨rfl, rfl, hlen, hn0⟩ := hc
          simp only [VR, CapE.val] at hx
          obtain ⟨b, κ, hb, rfl⟩ := hx
          obtain ⟨b2, κ2, hb2, hlive⟩ := hrep.obj id _ ho
          rw [hb] at hb2
          simp only [Option.some.injEq, Prod.mk.injEq] at hb2
          obtain ⟨rfl, rfl⟩ := hb2
          obtain ⟨ob, hob, arr, hr, rfl, hsz, hκ⟩ := hlive rfl
          have hvl := hr.length
          simp only [List.length_take, Array.length_toList] at hvl
          have hκ2 : sub + len ≤ κ := by
            have : (sub + len) * n' ≤ κ * n' := by rw [Nat.add_mul]; omega
            exact Nat.le_of_mul_le_mul_right this hn0
          split at h
          · split at h
            · rename_i hc2
              obtain ⟨h1, h2, h3⟩ := hc2
              simp only [Option.some.injEq] at h
              subst h
              have hrun := run_bounds (P := P) true len (κ - sub) bl bh bm (by simp) (by simp only [Option.getD_none]; omega) h2 (by simp) w
              refine ⟨_, by simp [hsa, Instr.slice, run_underlying hu, hrun, run_sizeT hn]; rfl, ?_⟩
              simp only [VR, CapE.val]
              refine ⟨b, κ, hb, ?_⟩
              have e1 : κ - sub - nl.getD 0 = κ - (sub + nl.getD 0) := by omega
              rw [e1]
              congr 1
              split
              · rename_i h4
                have : nl.getD 0 = 0 := by omega
                simp [this]
              · simp [Addr.add_lit]
            · cases h
          · rename_i m
            split at h
            · rename_i hc2
              obtain ⟨h1, h2, h3, h4⟩ := hc2
              simp only [Option.some.injEq] at h
              subst h
              have hrun := run_bounds (P := P) true len (κ - sub) bl bh bm (by simp only [Option.getD_some]; omega) (by simpa using h2) h3 (fun _ => h4) w
              refine ⟨_, by simp [hsa, Instr.slice, run_underlying hu, hrun, run_sizeT hn]; rfl, ?_⟩
              simp only [VR, CapE.val]
              refine ⟨b, κ, hb, ?_⟩
              split
              · rfl
              · simp [Addr.add_lit]
            · cases h
        · cases h
      · cases h
    · rename_i n hn
      split at h
      · rename_i hc
        obtain ⟨h1, h2, h3⟩ := hc
        simp only [Option.some.injEq] at h
        subst h h3
        simp only [VR] at hx
        subst hx
        have hrun := run_bounds (P := P) true 0 0 bl bh bm (by simp) (by simp only [Option.getD_none]; omega) (by omega) (by simp) w
        refine ⟨_, by simp [hsa, Instr.slice, run_underlying hu, hrun, run_sizeT hn]; rfl, ?_⟩
        simp only [VR, h1, h2]
      · cases h
    · cases h
  · rename_i nl nh hu hbl hbh hbm
    have bl := bnd_ok hbl hl
    have bh := bnd_ok hbh hh
    have bm := bnd_ok hbm hm
    split at h
    · rename_i str
      simp only [] at h
      split at h
      · rename_i hc
        simp only [Option.some.injEq] at h
        subst h
        simp only [VR] at hx
        subst hx
        have hsz : (bytesOf str).size = str.length := by simp [bytesOf, ByteArray.size]
        obtain ⟨_, rfl⟩ | ⟨_, _, h5, _⟩ := bm
        · have hrun := run_bounds (P := P) false str.length str.length bl bh (.inl ⟨rfl, rfl⟩) (by simp) (by simpa using hc.1) hc.2 (by simp) w
          refine ⟨.string ((bytesOf str).extract (nl.getD 0) (nh.getD str.length)), by simp [hsa, Instr.slice, run_underlying hu, hsz, hrun], ?_⟩
          simp only [VR, Value.string.injEq]
          apply ByteArray.ext
          apply Array.ext'
          simp [bytesOf, List.extract_eq_take_drop, List.drop_take]
        · cases h5
      · cases h
    · cases h
  · cases h

theorem viewCut_nn (hR : FOK F R) {off len : Tm} {cap : CapV} {lo hi mx : Option Tm} {o n : Tm} {c : CapV} (h : viewCut R off len cap lo hi mx = some (o, n, c)) :
    0 ≤ ((lo.getD (.lit 0)).val F).i ∧ ((lo.getD (.lit 0)).val F).i ≤ ((hi.getD len).val F).i ∧ (mx = none → ((hi.getD len).val F).i ≤ (len.val F).i) ∧
      (∀ m, mx = some m → hi.isSome = true ∧ ((hi.getD len).val F).i ≤ (m.val F).i ∧ (m.val F).i ≤ (len.val F).i) ∧ o = ladd off (lo.getD (.lit 0)) ∧ n = lsub (hi.getD len) (lo.getD (.lit 0)) ∧
      c = (match mx with | none => capCut R cap len (lo.getD (.lit 0)) (hi.getD len) | some m => if cap.sure && isZ R (lsub m (hi.getD len)) && (isZ R (lo.getD (.lit 0)) || leq R (ladd (lo.getD (.lit 0)) (.lit 1)) m) then .tight else .any) := by
  unfold viewCut at h
  simp only [] at h
  split at h
  · rename_i hc
    simp only [Bool.and_eq_true] at hc
    have h1 := nn_ok hR hc.1
    have h2 := leq_ok hR hc.2
    split at h
    · split at h
      · rename_i h3
        have h3 := leq_ok hR h3
        simp only [Option.some.injEq, Prod.mk.injEq] at h
        obtain ⟨rfl, rfl, rfl⟩ := h
        exact ⟨h1, h2, fun _ => h3, fun m e => (by cases e), rfl, rfl, rfl⟩
      · cases h
    · rename_i m
      split at h
      · rename_i h3
        simp only [Bool.and_eq_true] at h3
        have h4 := leq_ok hR h3.1.2
        have h5 := leq_ok hR h3.2
        simp only [Option.some.injEq, Prod.mk.injEq] at h
        obtain ⟨rfl, rfl, rfl⟩ := h
        exact ⟨h1, h2, fun e => (by cases e), fun m' e => (by simp only [Option.some.injEq] at e; subst e; exact ⟨h3.1.1, h4, h5⟩), rfl, rfl, rfl⟩
      · cases h
  · cases h

theorem viewCut_ok (hR : FOK F R) {t e : TypeId} (hu : P.underlying t = some (.slice e)) (hs : sizeT P e = some 1) {b base κ : Nat} {off len : Tm} {cap : CapV} {v : Value} (hv : ViewAt F b base κ off len cap v) {lo hi mx : Option AV} {lo' hi' mx' : Option Tm}
    (hlo : bndT lo = some lo') (hhi : bndT hi = some hi') (hmx : bndT mx = some mx') {vl vh vm : Option Value} (hl : OVR F σ lo vl) (hh : OVR F σ hi vh) (hm : OVR F σ mx vm) {o n : Tm} {c : CapV} (h : viewCut R off len cap lo' hi' mx' = some (o, n, c)) (w : World) :
    ∃ rv, (Instr.sliceAt t v vl vh vm).run P w = .ok rv w ∧ ViewAt F b base κ o n c rv := by
  have hsa : ∀ x, (Instr.sliceAt t x vl vh vm) = (do match ← underlying t with
      | .array n elem =>
        let a ← Instr.sureAddr x
        let (l, h, m) ← Instr.sliceBounds false n n vl vh vm
        let size ← sizeOf elem
        pure (.slice (some (if m = l then a else a.add (l * size))) (h - l) (m - l))
      | _ => Instr.slice t x vl vh vm) := fun _ => rfl
  obtain ⟨g1, g2, g3, g4, rfl, rfl, hc⟩ := viewCut_nn hR h
  obtain ⟨ov, nv, cv, hov, hnv, hcase⟩ := hv
  have nlo : ∀ t, lo' = some t → 0 ≤ (t.val F).i := fun t e => by subst e; exact g1
  have nhi : ∀ t, hi' = some t → 0 ≤ (t.val F).i := fun t e => by subst e; simp only [Option.getD_some] at g2; omega
  have nmx : ∀ t, mx' = some t → 0 ≤ (t.val F).i := fun t e => by have := (g4 t e).2.1; omega
  have bl := bndT_ok hlo hl nlo
  have bh := bndT_ok hhi hh nhi
  have bm := bndT_ok hmx hm nmx
  -- the numbers
  have eL : (lo'.map fun t => (t.val F).i.toNat).getD 0 = ((lo'.getD (.lit 0)).val F).i.toNat := by cases lo' <;> simp [Tm.val]
  have eH : (hi'.map fun t => (t.val F).i.toNat).getD nv = ((hi'.getD len).val F).i.toNat := by
    cases hi' with
    | none => simp only [Option.map_none, Option.getD_none, hnv, Int.toNat_natCast]
    | some t => rfl
  have hisome : (hi'.map fun t => (t.val F).i.toNat).isSome = hi'.isSome := by cases hi' <;> rfl
  generalize hL : ((lo'.getD (.lit 0)).val F).i = L at *
  generalize hH : ((hi'.getD len).val F).i = H at *
  have ho' : ((ladd off (lo'.getD (.lit 0))).val F).i = ((ov + L.toNat : Nat) : Int) := by rw [ladd_val, hov, hL]; omega
  have hn' : ((lsub (hi'.getD len) (lo'.getD (.lit 0))).val F).i = ((H.toNat - L.toNat : Nat) : Int) := by rw [lsub_val, hL, hH]; omega
  -- the run, for a slice at a place with a capacity
  have run : ∀ (a : Addr) (cp : Nat), nv ≤ cp → (Instr.sliceAt t (.slice (some a) nv cp) vl vh vm).run P w =
      .ok (.slice (some (if (mx'.map fun t => (t.val F).i.toNat).getD cp = L.toNat then a else a.add L.toNat)) (H.toNat - L.toNat) ((mx'.map fun t => (t.val F).i.toNat).getD cp - L.toNat)) w := by
    intro a cp hcp
    have hrun := run_bounds (P := P) true nv cp bl bh bm (by
        cases mx' with
        | none => exact Nat.le_refl _
        | some m => have := (g4 m rfl).2.2; simp only [Option.map_some, Option.getD_some]; omega) (by
        rw [eH]
        cases mx' with
        | none => have := g3 rfl; simp only [Option.map_none, Option.getD_none]; omega
        | some m => have := (g4 m rfl).2.1; simp only [Option.map_some, Option.getD_some]; omega) (by rw [eL, eH]; omega) (by
        intro hms
        rw [hisome]
        cases mx' with
        | none => cases hms
        | some m => exact (g4 m rfl).1) w
    rw [eL, eH] at hrun
    simp only [hsa, Instr.slice, Sem.run_bind, run_underlying hu, Result.andThen_ok, hrun, run_sizeT hs, Sem.run_pure, Nat.mul_one]
    split <;> rfl
  have zL : ∀ t, lo'.getD (.lit 0) = t → isZ R t = true → L = 0 := fun t e hz => by have := isZ_ok hR hz; rw [← e, hL] at this; exact this
  have ltL : ∀ q : Tm, leq R (ladd (lo'.getD (.lit 0)) (.lit 1)) q = true → L + 1 ≤ (q.val F).i := fun q hq => by
    have := leq_ok hR hq
    rw [ladd_val, hL] at this
    simpa [Tm.val] using this
  have hHn : mx' = none → H.toNat ≤ nv := fun e => by have := g3 e; omega
  have anyOf : ∀ (a : Addr) (cp : Nat), nv ≤ cp → (a = ⟨b, base + ov, none⟩ ∨ nv = 0) → ∃ rv, (Instr.sliceAt t (.slice (some a) nv cp) vl vh vm).run P w = .ok rv w ∧ ViewAt F b base κ (ladd off (lo'.getD (.lit 0))) (lsub (hi'.getD len) (lo'.getD (.lit 0))) .any rv := by
    intro a cp hcp ha
    refine ⟨_, run a cp hcp, ov + L.toNat, H.toNat - L.toNat, (mx'.map fun t => (t.val F).i.toNat).getD cp - L.toNat, ho', hn', ?_⟩
    have hMH : H.toNat ≤ (mx'.map fun t => (t.val F).i.toNat).getD cp := by
      cases mx' with
      | none => have := hHn rfl; simp only [Option.map_none, Option.getD_none]; omega
      | some m => have := (g4 m rfl).2.1; simp only [Option.map_some, Option.getD_some]; omega
    by_cases h0 : H.toNat - L.toNat = 0
    · exact .inr ⟨h0, _, by rw [h0]⟩
    · left
      rcases ha with rfl | hnz
      · rw [if_neg (by omega), Addr.add_lit, Nat.add_assoc]
        exact ⟨rfl, by omega⟩
      · have : H.toNat ≤ nv := by
          cases mx' with
          | none => exact hHn rfl
          | some m => have := g4 m rfl; omega
        omega
  have weak : ∀ {rv}, ViewAt F b base κ (ladd off (lo'.getD (.lit 0))) (lsub (hi'.getD len) (lo'.getD (.lit 0))) .any rv → c = .any → ViewAt F b base κ (ladd off (lo'.getD (.lit 0))) (lsub (hi'.getD len) (lo'.getD (.lit 0))) c rv := fun h e => by rw [e]; exact h
  have exact_ : ∀ (cp : Nat), nv ≤ cp → (L = 0 ∨ L.toNat < (mx'.map fun t => (t.val F).i.toNat).getD cp) → (Instr.sliceAt t (.slice (some ⟨b, base + ov, none⟩) nv cp) vl vh vm).run P w =
      .ok (.slice (some ⟨b, base + (ov + L.toNat), none⟩) (H.toNat - L.toNat) ((mx'.map fun t => (t.val F).i.toNat).getD cp - L.toNat)) w := by
    intro cp hcp hq
    rw [run _ cp hcp]
    congr 2
    split
    · rename_i he
      rcases hq with rfl | hq
      · simp
      · omega
    · rw [Addr.add_lit, Nat.add_assoc]
  cases mx' with
  | some m =>
    obtain ⟨q1, q2, q3⟩ := g4 m rfl
    simp only [] at hc
    split at hc
    · rename_i hcond
      subst hc
      simp only [Bool.and_eq_true, Bool.or_eq_true] at hcond
      have z := isZ_ok hR hcond.1.2
      rw [lsub_val, hH] at z
      have hq : L = 0 ∨ L.toNat < (m.val F).i.toNat := by
        rcases hcond.2 with hz | hlt
        · exact .inl (zL _ rfl hz)
        · have := ltL _ hlt; right; omega
      have fin : ∀ cp, nv ≤ cp → ∃ rv, (Instr.sliceAt t (.slice (some ⟨b, base + ov, none⟩) nv cp) vl vh vm).run P w = .ok rv w ∧ ViewAt F b base κ (ladd off (lo'.getD (.lit 0))) (lsub (hi'.getD len) (lo'.getD (.lit 0))) .tight rv := by
        intro cp hcp
        refine ⟨_, exact_ cp hcp hq, ov + L.toNat, H.toNat - L.toNat, _, ho', hn', rfl, ?_⟩
        simp only [Option.map_some, Option.getD_some]
        omega
      cases cap with
      | rest => obtain ⟨rfl, rfl, hk⟩ := hcase; exact fin _ (by omega)
      | tight => obtain ⟨rfl, rfl⟩ := hcase; exact fin _ (Nat.le_refl _)
      | any =>
        rcases hcase with ⟨rfl, hle⟩ | ⟨rfl, a, rfl⟩
        · exact fin _ hle
        · cases hcond.1.1
    · have fin : ∀ (a : Addr) (cp : Nat), nv ≤ cp → (a = ⟨b, base + ov, none⟩ ∨ nv = 0) → ∃ rv, (Instr.sliceAt t (.slice (some a) nv cp) vl vh vm).run P w = .ok rv w ∧ ViewAt F b base κ (ladd off (lo'.getD (.lit 0))) (lsub (hi'.getD len) (lo'.getD (.lit 0))) c rv := by
        intro a cp hcp ha
        obtain ⟨rv, h1, h2⟩ := anyOf a cp hcp ha
        exact ⟨rv, h1, weak h2 hc⟩
      cases cap with
      | rest => obtain ⟨rfl, rfl, hk⟩ := hcase; exact fin _ _ (by omega) (.inl rfl)
      | tight => obtain ⟨rfl, rfl⟩ := hcase; exact fin _ _ (Nat.le_refl _) (.inl rfl)
      | any =>
        rcases hcase with ⟨rfl, hle⟩ | ⟨rfl, a, rfl⟩
        · exact fin _ _ hle (.inl rfl)
        · exact fin _ _ (Nat.zero_le _) (.inr rfl)
  | none =>
    have q3 := g3 rfl
    simp only [capCut] at hc
    have anyFin : c = .any → ∃ rv, (Instr.sliceAt t v vl vh vm).run P w = .ok rv w ∧ ViewAt F b base κ (ladd off (lo'.getD (.lit 0))) (lsub (hi'.getD len) (lo'.getD (.lit 0))) c rv := by
      intro hca
      have fin : ∀ (a : Addr) (cp : Nat), nv ≤ cp → (a = ⟨b, base + ov, none⟩ ∨ nv = 0) → ∃ rv, (Instr.sliceAt t (.slice (some a) nv cp) vl vh vm).run P w = .ok rv w ∧ ViewAt F b base κ (ladd off (lo'.getD (.lit 0))) (lsub (hi'.getD len) (lo'.getD (.lit 0))) c rv := by
        intro a cp hcp ha
        obtain ⟨rv, h1, h2⟩ := anyOf a cp hcp ha
        exact ⟨rv, h1, weak h2 hca⟩
      cases cap with
      | rest => obtain ⟨rfl, rfl, hk⟩ := hcase; exact fin _ _ (by omega) (.inl rfl)
      | tight => obtain ⟨rfl, rfl⟩ := hcase; exact fin _ _ (Nat.le_refl _) (.inl rfl)
      | any =>
        rcases hcase with ⟨rfl, hle⟩ | ⟨rfl, a, rfl⟩
        · exact fin _ _ hle (.inl rfl)
        · exact fin _ _ (Nat.zero_le _) (.inr rfl)
    cases cap with
    | any => exact anyFin (by simpa using hc)
    | rest =>
      simp only [] at hc
      split at hc
      · rename_i hcond
        subst hc
        simp only [Bool.or_eq_true] at hcond
        obtain ⟨rfl, rfl, hk⟩ := hcase
        have hq : L = 0 ∨ L.toNat < κ - ov := by
          rcases hcond with hz | hlt
          · exact .inl (zL _ rfl hz)
          · have := ltL _ hlt; rw [hnv] at this; right; omega
        refine ⟨_, exact_ _ (by omega) hq, ov + L.toNat, H.toNat - L.toNat, _, ho', hn', rfl, ?_, ?_⟩
        · simp only [Option.map_none, Option.getD_none]; omega
        · have := hHn rfl; omega
      · exact anyFin hc
    | tight =>
      simp only [] at hc
      split at hc
      · rename_i hcond
        subst hc
        simp only [Bool.and_eq_true, Bool.or_eq_true] at hcond
        obtain ⟨rfl, rfl⟩ := hcase
        have z := isZ_ok hR hcond.2
        rw [lsub_val, hH, hnv] at z
        have hq : L = 0 ∨ L.toNat < cv := by
          rcases hcond.1 with hz | hlt
          · exact .inl (zL _ rfl hz)
          · have := ltL _ hlt; rw [hnv] at this; right; omega
        refine ⟨_, exact_ _ (Nat.le_refl _) hq, ov + L.toNat, H.toNat - L.toNat, _, ho', hn', rfl, ?_⟩
        simp only [Option.map_none, Option.getD_none]; omega
      · exact anyFin hc

theorem textCut_ok (hR : FOK F R) {t : TypeId} (hu : P.underlying t = some .string) {u : Tm} {lo hi : Option AV} {lo' hi' : Option Tm} (hlo : bndT lo = some lo') (hhi : bndT hi = some hi') {vl vh : Option Value} (hl : OVR F σ lo vl) (hh : OVR F σ hi vh)
    {r : AV} (h : textCut R u lo' hi' = some r) (w : World) : ∃ rv, (Instr.sliceAt t (.string (bytesOf (u.val F).d)) vl vh none).run P w = .ok rv w ∧ VR F σ r rv := by
  have hsa : ∀ x, (Instr.sliceAt t x vl vh none) = (do match ← underlying t with
      | .array n elem =>
        let a ← Instr.sureAddr x
        let (l, h, m) ← Instr.sliceBounds false n n vl vh none
        let size ← sizeOf elem
        pure (.slice (some (if m = l then a else a.add (l * size))) (h - l) (m - l))
      | _ => Instr.slice t x vl vh none) := fun _ => rfl
  unfold textCut at h
  simp only [] at h
  split at h
  · rename_i hc
    simp only [Bool.and_eq_true] at hc
    have h1 := nn_ok hR hc.1.1
    have h2 := leq_ok hR hc.1.2
    have h3 := leq_ok hR hc.2
    rw [lenT_ok hR] at h3
    simp only [Option.some.injEq] at h
    subst h
    have nlo : ∀ t, lo' = some t → 0 ≤ (t.val F).i := fun t e => by subst e; exact h1
    have nhi : ∀ t, hi' = some t → 0 ≤ (t.val F).i := fun t e => by subst e; simp only [Option.getD_some] at h2; omega
    have bl := bndT_ok hlo hl nlo
    have bh := bndT_ok hhi hh nhi
    have hsz : (bytesOf (u.val F).d).size = (u.val F).d.length := by simp [bytesOf, ByteArray.size]
    have eL : (lo'.map fun t => (t.val F).i.toNat).getD 0 = ((lo'.getD (.lit 0)).val F).i.toNat := by cases lo' <;> simp [Tm.val]
    have eH : (hi'.map fun t => (t.val F).i.toNat).getD (u.val F).d.length = ((hi'.getD (lenT R u)).val F).i.toNat := by
      cases hi' with
      | none => simp only [Option.map_none, Option.getD_none, lenT_ok hR, Int.toNat_natCast]
      | some t => rfl
    generalize hL : ((lo'.getD (.lit 0)).val F).i = L at *
    generalize hH : ((hi'.getD (lenT R u)).val F).i = H at *
    have hrun := run_bounds (P := P) false (u.val F).d.length (u.val F).d.length bl bh (.inl ⟨rfl, rfl⟩) (by simp) (by rw [eH]; simp; omega) (by rw [eL, eH]; omega) (by simp) w
    rw [eL, eH] at hrun
    refine ⟨.string ((bytesOf (u.val F).d).extract L.toNat H.toNat), by simp [hsa, Instr.slice, run_underlying hu, hsz, hrun], ?_⟩
    have hk := mkS_ok (F := F) (σ := σ) (dsub R u (lo'.getD (.lit 0)) (lsub (hi'.getD (lenT R u)) (lo'.getD (.lit 0))))
    rw [dsub_ok hR _ (by rw [hL]; exact h1) (by rw [lsub_val, hL, hH]; omega), lsub_val, hL, hH] at hk
    have e : (bytesOf (u.val F).d).extract L.toNat H.toNat = bytesOf (slice (u.val F).d L.toNat (H - L).toNat) := by
      rw [slice_eq (by omega)]
      apply ByteArray.ext
      apply Array.ext'
      have : (H - L).toNat = H.toNat - L.toNat := by omega
      simp [bytesOf, List.extract_eq_take_drop, this]
    rw [e]; exact hk
  · cases h

theorem sliceA_ok {t : TypeId} {id off : Nat} {r : AV} {lo hi mx : Option AV} (h : evSliceA P t id off lo hi mx = some r) {b κ : Nat} (hb : σ id = some (b, κ)) {vl vh vm : Option Value} (hl : OVR F σ lo vl) (hh : OVR F σ hi vh) (hm : OVR F σ mx vm) (w : World) :
    ∃ rv, (Instr.sliceAt t (.pointer (some ⟨b, off, none⟩)) vl vh vm).run P w = .ok rv w ∧ VR F σ r rv := by
  have hsa : ∀ x, (Instr.sliceAt t x vl vh vm) = (do match ← underlying t with
      | .array n elem =>
        let a ← Instr.sureAddr x
        let (l, h, m) ← Instr.sliceBounds false n n vl vh vm
        let size ← sizeOf elem
        pure (.slice (some (if m = l then a else a.add (l * size))) (h - l) (m - l))
      | _ => Instr.slice t x vl vh vm) := fun _ => rfl
  unfold evSliceA at h
  split at h
  · rename_i n e nl nh nm hu hbl hbh hbm
    have bl := bnd_ok hbl hl
    have bh := bnd_ok hbh hh
    have bm := bnd_ok hbm hm
    split at h
    · rename_i sz hsz
      simp only [] at h
      split at h
      · rename_i hc
        obtain ⟨h1, h2, h3, h4⟩ := hc
        simp only [Option.some.injEq] at h
        subst h
        have hrun := run_bounds (P := P) false n n bl bh bm h1 h2 h3 h4 w
        refine ⟨_, by simp only [hsa, Sem.run_bind, run_underlying hu, Instr.sureAddr, Sem.run_pure, Result.andThen_ok, hrun, run_sizeT hsz]; rfl, ?_⟩
        simp only [VR, CapE.val]
        refine ⟨b, κ, hb, ?_⟩
        split
        · rfl
        · simp [Addr.add_lit]
      · cases h
    · cases h
  · cases h

theorem slice_ok (hR : FOK F R) {t : TypeId} {x r : AV} {lo hi mx : Option AV} (h : evSlice P R s t x lo hi mx = some r) {v : Value} {vl vh vm : Option Value} (hx : VR F σ x v) (hl : OVR F σ lo vl) (hh : OVR F σ hi vh) (hm : OVR F σ mx vm)
    (hrep : Rep F A w0 σ w s) : ∃ rv, (Instr.sliceAt t v vl vh vm).run P w = .ok rv w ∧ VR F σ r rv := by
  unfold evSlice at h
  split at h
  · simp only [VR] at hx
    obtain ⟨b, κ, hb, rfl⟩ := hx
    exact sliceA_ok h hb hl hh hm w
  · rename_i id off len cap
    split at h
    · rename_i e lo' hi' mx' hu hlo hhi hmx
      split at h
      · rename_i hs
        split at h
        · rename_i o n c hc
          simp only [Option.some.injEq] at h
          subst h
          simp only [VR] at hx
          obtain ⟨b, κ, hb, hv⟩ := hx
          obtain ⟨rv, h1, h2⟩ := viewCut_ok hR hu hs hv hlo hhi hmx hl hh hm hc w
          exact ⟨rv, h1, by simp only [VR]; exact ⟨b, κ, hb, h2⟩⟩
        · cases h
      · cases h
    · cases h
  · rename_i id off len
    split at h
    · rename_i e lo' hi' mx' hu hlo hhi hmx
      split at h
      · rename_i hs
        split at h
        · rename_i o n hc
          simp only [Option.some.injEq] at h
          subst h
          simp only [VR] at hx
          obtain ⟨b, κ, hb, hv⟩ := hx
          obtain ⟨rv, h1, h2⟩ := viewCut_ok hR hu hs hv hlo hhi hmx hl hh hm hc w
          exact ⟨rv, h1, by simp only [VR]; exact ⟨b, κ, hb, h2⟩⟩
        · cases h
      · cases h
    · cases h
  · rename_i u
    split at h
    · rename_i lo' hi' hu hlo hhi
      simp only [VR] at hx
      subst hx
      have hvm : vm = none := hm
      subst hvm
      exact textCut_ok hR hu hlo hhi hl hh h w
    · cases h
  · rename_i u
    split at h
    · rename_i r' h0
      simp only [Option.some.injEq] at h
      subst h
      exact slice0_ok h0 hx hl hh hm hrep
    · split at h
      · rename_i lo' hi' hlo hhi hu
        simp only [VR] at hx
        subst hx
        have hvm : vm = none := hm
        subst hvm
        first | exact textCut_ok (u := .bs u) hR hu hlo hhi hl hh h w | exact textCut_ok (u := .bs u) hR (by assumption) (by assumption) (by assumption) hl hh h w
      · cases h
  · exact slice0_ok h hx hl hh hm hrep
end
end
end Go.Sy
