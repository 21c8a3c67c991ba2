/- Numbers, comparisons: the evaluator's and the model's agree. Conditions: what is told of the names. -/
import Derived.Test.YtpjakhjaicegjaaGreatDoorSy4
import Derived.Laws.StructEq
import Derived.ChangeKeysEq
namespace Go.Sy
open Go.RowKit
variable {S : Sg}
noncomputable section

/-- A truth as it is kept: known, or a term. -/
def mkB (R : Facts) (t : Tm) : AV := match decB R t with
  | some b => .bool b
  | none => .tb t
def mkS : Tm → AV
  | .bs l => .str l
  | t => .ts t
def strT : AV → Option Tm
  | .str l => some (.bs l)
  | .ts t => some t
  | _ => none
def mkAnd (R : Facts) (a b : Tm) : Tm := match decB R a with
  | some true => b
  | some false => .bl false
  | none => match decB R b with
    | some true => a
    | some false => .bl false
    | none => .and a b

def isShift : BinOp → Bool
  | .shl | .shr => true
  | _ => false
def isCmp : BinOp → Bool
  | .eql | .neq | .lss | .leq | .gtr | .geq => true
  | _ => false

def cmpT (op : BinOp) (x y : Tm) : Option Tm := match op with
  | .lss => some (.lt x y)
  | .leq => some (.le x y)
  | .gtr => some (.lt y x)
  | .geq => some (.le y x)
  | .eql => some (.eq x y)
  | .neq => some (.not (.eq x y))
  | _ => none

def unsig : IntKind → Bool
  | .u8 | .u16 | .u32 | .u64 => true
  | _ => false
/-- A number that is told to be in its kind's range; else the kind's own reckoning, if there is one. -/
def fitT (R : Facts) (k : IntKind) (t : Tm) (o : Option Tm) : Option Tm := if (rng R t).within (minF k) (maxF k) then some t else o
def binT (op : BinOp) (k : IntKind) (a b : Tm) : Option Tm := if unsig k then some (.bin op k a b) else none
/-- Reckoning with numbers of which not both are known. -/
def arith (R : Facts) (op : BinOp) (k : IntKind) (a b : Tm) : Option Tm := match op with
  | .add => fitT R k (ladd a b) (binT .add k a b)
  | .sub => fitT R k (lsub a b) (binT .sub k a b)
  | .mul => match a, b with
    | .lit n, b => fitT R k (lscale n b) (binT .mul k (.lit n) b)
    | a, .lit n => fitT R k (lscale n a) (binT .mul k a (.lit n))
    | a, b => fitT R k (.mul a b) (binT .mul k a b)
  | .quo => if nn R a && leq R (.lit 1) b then fitT R k (.div a b) none else none
  | .rem => if nn R a && leq R (.lit 1) b then some (.mod a b) else none
  | .and => some (.bin .and k a b)
  | .or => some (.bin .or k a b)
  | .xor => some (.bin .xor k a b)
  | .andNot => some (.bin .andNot k a b)
  | _ => none
/-- To the left by a known number: what was to the right by as much; else a multiple, where it fits. -/
def shlT (R : Facts) (k : IntKind) (a b : Tm) : Option Tm := match b with
  | .lit m =>
    if decide (0 ≤ m) && decide (m ≤ 62) && Nat.blt m.toNat (bitsF k) then
      match a with
      | .sh .shr k' x (.lit n) => if decide (n = m) && kindBeq k k' && nn R x && (rng R x).within 0 (maxF k) then some (lsub x (.mod x (.lit ((2 ^ m.toNat : Nat) : Int)))) else none
      | _ => if (rng R (lscale ((2 ^ m.toNat : Nat) : Int) a)).within (minF k) (maxF k) then some (lscale ((2 ^ m.toNat : Nat) : Int) a) else none
    else none
  | _ => none
def shiftT (R : Facts) (op : BinOp) (k : IntKind) (a b : Tm) : Option Tm := match op with
  | .shl => if nn R b then match shlT R k a b with
    | some t => some t
    | none => some (.sh .shl k a b)
    else none
  | .shr => if nn R b then some (.sh .shr k a b) else none
  | _ => none

def scalarEqT (P : Program) (t : TypeId) : AV → AV → Option Tm
  | .int k a, .int k' b => match P.underlying t with
    | some (.int _) => if k = k' then some (.eq a b) else none
    | _ => none
  | .bool a, .bool b => match P.underlying t with
    | some .bool => some (.bl (a == b))
    | _ => none
  | .bool a, .tb b => match P.underlying t with
    | some .bool => some (if a then b else .not b)
    | _ => none
  | .tb a, .bool b => match P.underlying t with
    | some .bool => some (if b then a else .not a)
    | _ => none
  | .str a, .str b => match P.underlying t with
    | some .string => some (.bl (a == b))
    | _ => none
  | .str a, .ts b => match P.underlying t with
    | some .string => some (.eqb (.bs a) b)
    | _ => none
  | .ts a, .str b => match P.underlying t with
    | some .string => some (.eqb a (.bs b))
    | _ => none
  | .ts a, .ts b => match P.underlying t with
    | some .string => some (.eqb a b)
    | _ => none
  | _, _ => none

def fieldsEqT (P : Program) (R : Facts) (xs ys : List AV) : List Field → Option Tm
  | [] => some (.bl true)
  | f :: fs =>
    if f.name ≠ "_" then
      match isAggT P f.type, xs[f.offset]?, ys[f.offset]? with
      | some false, some a, some b =>
        match scalarEqT P f.type a b, fieldsEqT P R xs ys fs with
        | some t, some u => some (mkAnd R t u)
        | _, _ => none
      | _, _, _ => none
    else fieldsEqT P R xs ys fs
def itemsEqT (P : Program) (R : Facts) (e : TypeId) (xs ys : List AV) : List Nat → Option Tm
  | [] => some (.bl true)
  | i :: is =>
    match xs[i]?, ys[i]? with
    | some a, some b =>
      match scalarEqT P e a b, itemsEqT P R e xs ys is with
      | some t, some u => some (mkAnd R t u)
      | _, _ => none
    | _, _ => none

/-- Is it nil? -/
def ptrN : AV → Option Bool
  | .nilptr => some true
  | .ptr _ _ | .gptr _ _ | .dp _ _ _ => some false
  | _ => none
def slN : AV → Option Bool
  | .nilsl => some true
  | .sl _ _ _ _ | .vw _ _ _ _ | .rv _ _ _ | .argz => some false
  | _ => none
def mapN : AV → Option Bool
  | .nilmap => some true
  | .map _ => some false
  | _ => none
def funN : AV → Option Bool
  | .nilFunc => some true
  | .func _ _ _ => some false
  | _ => none
def ifaceN : AV → Option Bool
  | .nilIface => some true
  | .iface _ _ => some false
  | _ => none
def nilT : Option Bool → Option Bool → Option Tm
  | some a, some b => if a || b then some (.bl (a && b)) else none
  | _, _ => none

/-- '==' on what is no integer and no text. -/
def evEqT (P : Program) (R : Facts) (c : Bool) (t : TypeId) (x y : AV) : Option Tm :=
  match P.underlying t with
  | some .bool => scalarEqT P t x y
  | some (.pointer _) => nilT (ptrN x) (ptrN y)
  | some (.slice _) => nilT (slN x) (slN y)
  | some (.map _ _) => nilT (mapN x) (mapN y)
  | some (.func _ _ _) => nilT (funN x) (funN y)
  | some (.interface _) => match ifaceN x, ifaceN y with
    | some true, some true => if c then some (.bl true) else none
    | a, b => nilT a b
  | some (.struct fs) => match x, y with
    | .agg xs, .agg ys => if P.eqGuardType P.depth t = false ∧ P.stoodInHeld t = false then fieldsEqT P R xs ys fs.toList else none
    | _, _ => none
  | some (.array n e) => match x, y with
    | .agg xs, .agg ys => if P.eqGuardType P.depth t = false ∧ isAggT P e = some false ∧ sizeT P e = some 1 then itemsEqT P R e xs ys (List.range n) else none
    | _, _ => none
  | _ => none

def strOp (R : Facts) (op : BinOp) (a b : Tm) : Option AV := match op with
  | .eql => some (mkB R (.eqb a b))
  | .neq => some (mkB R (.not (.eqb a b)))
  | .lss => some (mkB R (.slt a b))
  | .leq => some (mkB R (.not (.and (.not (.slt a b)) (.not (.eqb a b)))))
  | .gtr => some (mkB R (.and (.not (.slt a b)) (.not (.eqb a b))))
  | .geq => some (mkB R (.not (.slt a b)))
  | .add => if leq R (lenT R (dapp a b)) (.lit 1099511627776) then some (mkS (dapp a b)) else none
  | _ => none

def evBin (P : Program) (R : Facts) (c : Bool) (op : BinOp) (t : TypeId) (x y : AV) : Option AV :=
  match x, y with
  | .int k a, .int k' b =>
    if isShift op then
      match a, b with
      | .lit a, .lit b => match evShift op k a b with
        | some n => some (.int k (.lit n))
        | none => none
      | a, b => match shiftT R op k a b with
        | some n => some (.int k n)
        | none => none
    else if k ≠ k' then none
    else if isCmp op then match cmpT op a b with
      | some r => some (mkB R r)
      | none => none
    else
      match a, b with
      | .lit a, .lit b => match evIntOp op k a b with
        | some n => some (.int k (.lit n))
        | none => none
      | a, b => match arith R op k a b with
        | some n => some (.int k n)
        | none => none
  | .str a, .str b => strOp R op (.bs a) (.bs b)
  | .str a, .ts b => strOp R op (.bs a) b
  | .ts a, .str b => strOp R op a (.bs b)
  | .ts a, .ts b => strOp R op a b
  | _, _ =>
    match op with
    | .eql => match evEqT P R c t x y with
      | some r => some (mkB R r)
      | none => none
    | .neq => match evEqT P R c t x y with
      | some r => some (mkB R (.not r))
      | none => none
    | _ => none

section
variable {F : Fix S} {A : Nat → Prop} {w0 : World} {σ : Sig} {w : World} {s : AS} {P : Program} {R : Facts}

theorem mkB_ok (hR : FOK F R) (t : Tm) : VR F σ (mkB R t) (.bool (t.val F).b) := by
  unfold mkB
  split
  · rename_i b h
    simp only [VR, decB_ok hR t h]
  · simp only [VR]
theorem mkS_ok (t : Tm) : VR F σ (mkS t) (.string (bytesOf (t.val F).d)) := by
  unfold mkS
  split
  · simp only [VR, Tm.val, Dat.d_bytes]
  · simp only [VR]
theorem strT_ok {x : AV} {t : Tm} (h : strT x = some t) {v : Value} (hx : VR F σ x v) : v = .string (bytesOf (t.val F).d) := by
  unfold strT at h
  split at h
  · simp only [Option.some.injEq] at h; subst h; simpa only [VR, Tm.val, Dat.d_bytes] using hx
  · simp only [Option.some.injEq] at h; subst h; simpa only [VR] using hx
  · cases h
theorem mkAnd_ok (hR : FOK F R) (a b : Tm) : ((mkAnd R a b).val F).b = ((a.val F).b && (b.val F).b) := by
  unfold mkAnd
  split
  · rename_i h; rw [decB_ok hR a h, Bool.true_and]
  · rename_i h; rw [decB_ok hR a h, Bool.false_and]; rfl
  · split
    · rename_i h; rw [decB_ok hR b h, Bool.and_true]
    · rename_i h; rw [decB_ok hR b h, Bool.and_false]; rfl
    · rfl

theorem bytes_beq (a b : List UInt8) : (bytesOf a).toList == (bytesOf b).toList ↔ a = b := by
  rw [ByteArray.toList_eq, ByteArray.toList_eq]
  simp [bytesOf]

theorem bytes_beq' (a b : List UInt8) : ((bytesOf a).toList == (bytesOf b).toList) = (a == b) := by
  rw [Bool.eq_iff_iff, bytes_beq]; simp
theorem bytesOf_toList (a : List UInt8) : (bytesOf a).toList = a := by rw [ByteArray.toList_eq]; simp [bytesOf]

theorem scalarEqT_ok {t : TypeId} {x y : AV} {r : Tm} (h : scalarEqT P t x y = some r) {vx vy : Value} (hx : VR F σ x vx) (hy : VR F σ y vy) (d : Nat) (w : World) :
    (Op.equalIn (d + 1) t vx vy).run P w = .ok (r.val F).b w := by
  unfold scalarEqT at h
  split at h
  · simp only [VR] at hx hy
    subst hx hy
    split at h
    · rename_i k2 hu
      split at h
      · rename_i hk
        subst hk
        simp only [Option.some.injEq] at h
        subst h
        rw [run_equalIn_int w d t _ k2 _ _ hu]
        simp only [Tm.val, Dat.b_bool]
        congr 1
      · cases h
    · cases h
  case h_9 => cases h
  all_goals
    simp only [VR] at hx hy
    subst hx hy
    split at h
    · rename_i hu
      simp only [Option.some.injEq] at h
      subst h
      first
        | (rw [run_equalIn_bool' w d t _ _ hu]; first | rfl | (split <;> simp_all [Tm.val]))
        | (rw [run_equalIn_string w d t _ _ hu, bytes_beq']; rfl)
    · cases h

theorem fieldsEqT_ok (hR : FOK F R) {xs ys : List AV} {vxs vys : List Value} (hx : VRs F σ xs vxs) (hy : VRs F σ ys vys) (d : Nat) (w : World) : ∀ (fs : List Field) (r : Tm), fieldsEqT P R xs ys fs = some r →
    (Op.eqFields (d + 1) vxs.toArray vys.toArray fs).run P w = .ok (r.val F).b w
  | [], r, h => by simp only [fieldsEqT, Option.some.injEq] at h; subst h; simp [Op.eqFields, Tm.val]
  | f :: fs, r, h => by
    simp only [fieldsEqT] at h
    split at h
    · rename_i hn
      split at h
      · rename_i a b hagg hxa hyb
        obtain ⟨va, hva, hra⟩ := hx.get _ _ hxa
        obtain ⟨vb, hvb, hrb⟩ := hy.get _ _ hyb
        have pa : (part f.type vxs.toArray f.offset).run P w = .ok va w := by simp [part, run_isAggT hagg, hva]
        have pb : (part f.type vys.toArray f.offset).run P w = .ok vb w := by simp [part, run_isAggT hagg, hvb]
        split at h
        · rename_i t u he hu
          simp only [Option.some.injEq] at h
          subst h
          simp only [Op.eqFields, hn, ne_eq, not_false_eq_true, if_true, Sem.run_bind, pa, pb, Result.andThen_ok]
          rw [scalarEqT_ok he hra hrb d w, mkAnd_ok hR]
          simp only [Result.andThen_ok]
          cases hb : (t.val F).b with
          | true => simp only [Bool.not_true, Bool.false_eq_true, if_false, Bool.true_and]; exact fieldsEqT_ok hR hx hy d w fs u hu
          | false => simp
        · cases h
      · cases h
    · rename_i hn
      simp only [Op.eqFields, hn, if_false]
      exact fieldsEqT_ok hR hx hy d w fs r h
theorem itemsEqT_ok (hR : FOK F R) {e : TypeId} (hagg : isAggT P e = some false) {xs ys : List AV} {vxs vys : List Value} (hx : VRs F σ xs vxs) (hy : VRs F σ ys vys) (d : Nat) (w : World) : ∀ (is : List Nat) (r : Tm), itemsEqT P R e xs ys is = some r →
    (Op.eqItems (d + 1) e 1 vxs.toArray vys.toArray is).run P w = .ok (r.val F).b w
  | [], r, h => by simp only [itemsEqT, Option.some.injEq] at h; subst h; simp [Op.eqItems, Tm.val]
  | i :: is, r, h => by
    simp only [itemsEqT] at h
    split at h
    · rename_i a b hxa hyb
      obtain ⟨va, hva, hra⟩ := hx.get _ _ hxa
      obtain ⟨vb, hvb, hrb⟩ := hy.get _ _ hyb
      have pa : (part e vxs.toArray (i * 1)).run P w = .ok va w := by simp [part, run_isAggT hagg, hva]
      have pb : (part e vys.toArray (i * 1)).run P w = .ok vb w := by simp [part, run_isAggT hagg, hvb]
      split at h
      · rename_i t u he hu
        simp only [Option.some.injEq] at h
        subst h
        simp only [Op.eqItems, Sem.run_bind, pa, pb, Result.andThen_ok]
        rw [scalarEqT_ok he hra hrb d w, mkAnd_ok hR]
        simp only [Result.andThen_ok]
        cases hb : (t.val F).b with
        | true => simp only [Bool.not_true, Bool.false_eq_true, if_false, Bool.true_and]; exact itemsEqT_ok hR hagg hx hy d w is u hu
        | false => simp
      · cases h
    · cases h

theorem eq_of {t : TypeId} {vx vy : Value} {r : Bool} (w : World) (xo yo : Operand) (hg : ∀ op, (eqGuard op t xo yo vx vy).run P w = .ok () w) (h1 : binOp .eql t vx vy = (do pure (.bool (← Op.equal t vx vy)))) (h2 : binOp .neq t vx vy = (do pure (.bool (!(← Op.equal t vx vy)))))
    (he : ∀ d, (Op.equalIn (d + 1) t vx vy).run P w = .ok r w) :
    ((eqGuard .eql t xo yo vx vy).run P w = .ok () w ∧ (binOp .eql t vx vy).run P w = .ok (.bool r) w) ∧ ((eqGuard .neq t xo yo vx vy).run P w = .ok () w ∧ (binOp .neq t vx vy).run P w = .ok (.bool !r) w) := by
  have hq : (Op.equal t vx vy).run P w = .ok r w := he 9999
  rw [h1, h2]
  exact ⟨⟨hg _, by simp only [Sem.run_bind, hq, Result.andThen_ok, Sem.run_pure]⟩, hg _, by simp only [Sem.run_bind, hq, Result.andThen_ok, Sem.run_pure]⟩

def isConst : Operand → Bool
  | .const _ => true
  | _ => false
theorem guard_nilIface {t : TypeId} (w : World) {xo yo : Operand} (hc : (isConst xo || isConst yo) = true) (op : BinOp) : (eqGuard op t xo yo .nilIface .nilIface).run P w = .ok () w := by
  unfold eqGuard
  cases xo <;> cases yo <;> simp only [isConst, Bool.or_self, Bool.false_eq_true, Bool.or_true, Bool.or_false] at hc <;> cases op <;> simp

theorem ptrN_ok {x : AV} {b : Bool} (h : ptrN x = some b) {v : Value} (hx : VR F σ x v) : ∃ a : Option Addr, v = .pointer a ∧ a.isNone = b := by
  unfold ptrN at h
  split at h <;> first
    | (cases h; done)
    | (simp only [Option.some.injEq] at h
       subst h
       simp only [VR] at hx
       first
         | exact ⟨_, hx, rfl⟩
         | (obtain ⟨_, _, _, hx⟩ := hx; exact ⟨_, hx, rfl⟩)
         | (obtain ⟨_, _, _, _, _, hx⟩ := hx; exact ⟨_, hx, rfl⟩))
theorem slN_ok {x : AV} {b : Bool} (h : slN x = some b) {v : Value} (hx : VR F σ x v) : ∃ (a : Option Addr) (n c : Nat), v = .slice a n c ∧ a.isNone = b := by
  unfold slN at h
  split at h <;> first
    | (cases h; done)
    | (simp only [Option.some.injEq] at h
       subst h
       simp only [VR] at hx
       first
         | exact ⟨_, _, _, hx, rfl⟩
         | (obtain ⟨_, _, _, hx⟩ := hx; exact ⟨_, _, _, hx, rfl⟩)
         | (obtain ⟨_, _, _, hx⟩ := hx; obtain ⟨_, hx⟩ := hx.slice; exact ⟨_, _, _, hx, rfl⟩)
         | (obtain ⟨_, _, hx⟩ := hx; exact ⟨_, _, _, hx, rfl⟩))
theorem mapN_ok {x : AV} {b : Bool} (h : mapN x = some b) {v : Value} (hx : VR F σ x v) : ∃ a : Option Nat, v = .map a ∧ a.isNone = b := by
  unfold mapN at h
  split at h <;> first
    | (cases h; done)
    | (simp only [Option.some.injEq] at h
       subst h
       simp only [VR] at hx
       first
         | exact ⟨_, hx, rfl⟩
         | (obtain ⟨_, _, _, hx⟩ := hx; exact ⟨_, hx, rfl⟩))
theorem funN_ok {x : AV} {b : Bool} (h : funN x = some b) {v : Value} (hx : VR F σ x v) : (b = true ∧ v = .nilFunc) ∨ (b = false ∧ ∃ f a c, v = .func f a c) := by
  unfold funN at h
  split at h <;> first
    | (cases h; done)
    | (simp only [Option.some.injEq] at h
       subst h
       simp only [VR] at hx
       first
         | exact .inl ⟨rfl, hx⟩
         | (obtain ⟨_, _, _, _, hx⟩ := hx; exact .inr ⟨rfl, _, _, _, hx⟩))
theorem ifaceN_ok {x : AV} {b : Bool} (h : ifaceN x = some b) {v : Value} (hx : VR F σ x v) : (b = true ∧ v = .nilIface) ∨ (b = false ∧ ∃ t y, v = .iface t y) := by
  unfold ifaceN at h
  split at h <;> first
    | (cases h; done)
    | (simp only [Option.some.injEq] at h
       subst h
       simp only [VR] at hx
       first
         | exact .inl ⟨rfl, hx⟩
         | (obtain ⟨_, _, hx⟩ := hx; exact .inr ⟨rfl, _, _, hx⟩))
theorem nilT_ok {a b : Option Bool} {r : Tm} (h : nilT a b = some r) : ∃ x y, a = some x ∧ b = some y ∧ (x || y) = true ∧ r = .bl (x && y) := by
  unfold nilT at h
  split at h
  · rename_i x y
    split at h
    · rename_i hc
      simp only [Option.some.injEq] at h
      exact ⟨x, y, rfl, rfl, hc, h.symm⟩
    · cases h
  · cases h

theorem eqT_ok (hR : FOK F R) {t : TypeId} {x y : AV} {r : Tm} {c : Bool} (h : evEqT P R c t x y = some r) {vx vy : Value} (hx : VR F σ x vx) (hy : VR F σ y vy) (w : World) (xo yo : Operand) (hc : c = (isConst xo || isConst yo)) :
    ((eqGuard .eql t xo yo vx vy).run P w = .ok () w ∧ (binOp .eql t vx vy).run P w = .ok (.bool (r.val F).b) w) ∧ ((eqGuard .neq t xo yo vx vy).run P w = .ok () w ∧ (binOp .neq t vx vy).run P w = .ok (.bool !(r.val F).b) w) := by
  unfold evEqT at h
  split at h
  · rename_i hu
    have hb : ∃ b, vx = .bool b := by
      cases x <;> simp only [scalarEqT, hu] at h <;> first
        | (cases h; done)
        | (simp only [VR] at hx; exact ⟨_, hx⟩)
        | (cases y <;> simp at h)
    obtain ⟨b, rfl⟩ := hb
    have hb : ∃ b, vy = .bool b := by
      cases y <;> simp only [VR] at hy <;> first
        | exact ⟨_, hy⟩
        | (cases x <;> simp [scalarEqT, hu] at h)
    obtain ⟨b', rfl⟩ := hb
    exact eq_of w xo yo (fun op => by rw [eqGuard_at_bool]; rfl) rfl rfl (fun d => scalarEqT_ok h hx hy d w)
  · rename_i hu
    obtain ⟨p, q, hp, hq, hpq, rfl⟩ := nilT_ok h
    obtain ⟨a, rfl, ha⟩ := ptrN_ok hp hx
    obtain ⟨b, rfl, hb⟩ := ptrN_ok hq hy
    refine eq_of w xo yo (fun op => by rw [eqGuard_at_pointer]; rfl) rfl rfl (fun d => ?_)
    cases a <;> cases b <;> simp at ha hb <;> subst ha hb <;> first
      | (simp at hpq; done)
      | simp [Op.equalIn, run_underlying hu, Tm.val]
  · rename_i hu
    obtain ⟨p, q, hp, hq, hpq, rfl⟩ := nilT_ok h
    obtain ⟨a, n, c1, rfl, ha⟩ := slN_ok hp hx
    obtain ⟨b, n', c2, rfl, hb⟩ := slN_ok hq hy
    refine eq_of w xo yo (fun op => by rw [eqGuard_at_slice]; rfl) rfl rfl (fun d => ?_)
    cases a <;> cases b <;> simp at ha hb <;> subst ha hb <;> first
      | (simp at hpq; done)
      | simp [Op.equalIn, run_underlying hu, Tm.val]
  · rename_i hu
    obtain ⟨p, q, hp, hq, hpq, rfl⟩ := nilT_ok h
    obtain ⟨a, rfl, ha⟩ := mapN_ok hp hx
    obtain ⟨b, rfl, hb⟩ := mapN_ok hq hy
    refine eq_of w xo yo (fun op => by rw [eqGuard_at_map]; rfl) rfl rfl (fun d => ?_)
    cases a <;> cases b <;> simp at ha hb <;> subst ha hb <;> first
      | (simp at hpq; done)
      | simp [Op.equalIn, run_underlying hu, Tm.val]
  · rename_i hu
    obtain ⟨p, q, hp, hq, hpq, rfl⟩ := nilT_ok h
    rcases funN_ok hp hx with ⟨rfl, rfl⟩ | ⟨rfl, f, a, c1, rfl⟩ <;> rcases funN_ok hq hy with ⟨rfl, rfl⟩ | ⟨rfl, f', a', c1', rfl⟩
    · exact eq_of w xo yo (fun op => by rw [eqGuard_at_nilFunc]; rfl) rfl rfl (fun d => by simp [Op.equalIn, run_underlying hu, Tm.val])
    · exact eq_of w xo yo (fun op => by rw [eqGuard_at_nilFunc]; rfl) rfl rfl (fun d => by simp [Op.equalIn, run_underlying hu, Tm.val])
    · exact eq_of w xo yo (fun op => by rw [eqGuard_at_func]; rfl) rfl rfl (fun d => by simp [Op.equalIn, run_underlying hu, Tm.val])
    · simp at hpq
  · rename_i hu
    split at h
    · rename_i hp hq
      split at h
      · rename_i hcc
        simp only [Option.some.injEq] at h
        subst h
        rcases ifaceN_ok hp hx with ⟨_, rfl⟩ | ⟨h0, _⟩
        · rcases ifaceN_ok hq hy with ⟨_, rfl⟩ | ⟨h0, _⟩
          · exact eq_of w xo yo (fun op => guard_nilIface w (by rw [← hc, hcc]) op) rfl rfl (fun d => by simp [Op.equalIn, run_underlying hu, Tm.val])
          · cases h0
        · cases h0
      · cases h
    · rename_i hnn
      obtain ⟨p, q, hp, hq, hpq, rfl⟩ := nilT_ok h
      rcases ifaceN_ok hp hx with ⟨rfl, rfl⟩ | ⟨rfl, f, a, rfl⟩ <;> rcases ifaceN_ok hq hy with ⟨rfl, rfl⟩ | ⟨rfl, f', a', rfl⟩
      · exact absurd hq (fun hq => hnn hp hq)
      · exact eq_of w xo yo (fun op => by cases op <;> rfl) rfl rfl (fun d => by simp [Op.equalIn, run_underlying hu, Tm.val])
      · exact eq_of w xo yo (fun op => by rw [eqGuard_at_iface]; rfl) rfl rfl (fun d => by simp [Op.equalIn, run_underlying hu, Tm.val])
      · simp at hpq
  · rename_i fs hu
    split at h
    · rename_i xs ys
      simp only [VR] at hx hy
      obtain ⟨l1, hl1, rfl⟩ := hx
      obtain ⟨l2, hl2, rfl⟩ := hy
      split at h
      · rename_i hc
        have hfo : P.fieldsOf t = fs := by simp [Program.fieldsOf, hu]
        have hst := run_equalIn_struct w 9999 t l1.toArray l2.toArray (by rw [hfo]; exact hu) hc.2
        rw [hfo] at hst
        have hf := fieldsEqT_ok (P := P) hR hl1 hl2 9998 w fs.toList r h
        refine ⟨⟨run_eqGuard_agg w .eql t xo yo _ _ hc.1, ?_⟩, run_eqGuard_agg w .neq t xo yo _ _ hc.1, ?_⟩
        · rw [run_eql_struct, hst, hf]; rfl
        · rw [run_neq_struct, hst, hf]; rfl
      · cases h
    · cases h
  · rename_i n e hu
    split at h
    · rename_i xs ys
      simp only [VR] at hx hy
      obtain ⟨l1, hl1, rfl⟩ := hx
      obtain ⟨l2, hl2, rfl⟩ := hy
      split at h
      · rename_i hc
        obtain ⟨hc1, hagg, hsz⟩ := hc
        obtain ⟨i, hi, hin⟩ : ∃ i, P.info? e = some i ∧ i.size = 1 := by
          unfold sizeT at hsz
          split at hsz
          · rename_i i hi; simp only [Option.some.injEq] at hsz; exact ⟨i, hi, hsz⟩
          · cases hsz
        have hst := run_equalIn_array (P := P) w 9999 l1.toArray l2.toArray hu hi
        have hco : P.cellsOf e = 1 := by simp [Program.cellsOf, hi, hin]
        rw [hco] at hst
        have hf := itemsEqT_ok (P := P) hR hagg hl1 hl2 9998 w _ r h
        refine ⟨⟨run_eqGuard_agg w .eql t xo yo _ _ hc1, ?_⟩, run_eqGuard_agg w .neq t xo yo _ _ hc1, ?_⟩
        · rw [run_eql_struct, hst, hf]; rfl
        · rw [run_neq_struct, hst, hf]; rfl
      · cases h
    · cases h
  · cases h

theorem cmpT_ok {op : BinOp} {x y r : Tm} (h : cmpT op x y = some r) (P : Program) (w : World) : (Op.intCmp op (x.val F).i (y.val F).i).run P w = .ok (.bool (r.val F).b) w := by
  unfold cmpT at h
  split at h <;> first
    | cases h; done
    | (simp only [Option.some.injEq] at h; subst h; simp only [Op.intCmp, Sem.run_pure, Tm.val, Dat.b_bool] <;> first | rfl | (congr 2; done) | (congr 2; rw [Bool.eq_iff_iff]; simp))

theorem fitT_ok (hR : FOK F R) {k : IntKind} {t r : Tm} {o : Option Tm} (h : fitT R k t o = some r) : (r.val F).i = wrapF k (t.val F).i ∨ o = some r := by
  unfold fitT at h
  split at h
  · rename_i hw
    simp only [Option.some.injEq] at h
    subst h
    have := Iv.within_ok hw (rng_ok hR t)
    exact .inl (wrapF_in k _ this.1 this.2).symm
  · exact .inr h
theorem binT_ok {op : BinOp} {k : IntKind} {a b r : Tm} (h : binT op k a b = some r) : (r.val F).i = (evIntOp op k (a.val F).i (b.val F).i).getD 0 := by
  unfold binT at h
  split at h
  · simp only [Option.some.injEq] at h; subst h; rfl
  · cases h

theorem arith_ok (hR : FOK F R) {op : BinOp} {k : IntKind} {a b r : Tm} (h : arith R op k a b = some r) : evIntOp op k (a.val F).i (b.val F).i = some (r.val F).i := by
  unfold arith at h
  have divs : nn R a = true → leq R (.lit 1) b = true → 0 ≤ (a.val F).i ∧ 1 ≤ (b.val F).i := by
    intro h1 h2
    have := leq_ok hR h2
    exact ⟨nn_ok hR h1, by simpa [Tm.val] using this⟩
  split at h
  · rcases fitT_ok hR h with h | h
    · rw [ladd_val] at h; simp only [evIntOp, h]
    · have := binT_ok (F := F) h; simp only [evIntOp, Option.getD_some] at this ⊢; rw [this]
  · rcases fitT_ok hR h with h | h
    · rw [lsub_val] at h; simp only [evIntOp, h]
    · have := binT_ok (F := F) h; simp only [evIntOp, Option.getD_some] at this ⊢; rw [this]
  · split at h
    · rename_i n
      rcases fitT_ok hR h with h | h
      · rw [lscale_val] at h; simp only [evIntOp, h, Tm.val, Dat.i_int]
      · have := binT_ok (F := F) h; simp only [evIntOp, Option.getD_some] at this ⊢; rw [this]
    · rename_i n _
      rcases fitT_ok hR h with h | h
      · rw [lscale_val] at h; simp only [evIntOp, h, Tm.val, Dat.i_int, Int.mul_comm]
      · have := binT_ok (F := F) h; simp only [evIntOp, Option.getD_some] at this ⊢; rw [this]
    · rcases fitT_ok hR h with h | h
      · simp only [evIntOp, h, Tm.val, Dat.i_int]
      · have := binT_ok (F := F) h; simp only [evIntOp, Option.getD_some] at this ⊢; rw [this]
  · split at h
    · rename_i hc
      simp only [Bool.and_eq_true] at hc
      obtain ⟨h1, h2⟩ := divs hc.1 hc.2
      rcases fitT_ok hR h with h | h
      · simp only [Tm.val, Dat.i_int] at h
        simp only [evIntOp]
        rw [if_neg (by omega), Int.tdiv_eq_ediv_of_nonneg h1, h]
      · cases h
    · cases h
  · split at h
    · rename_i hc
      simp only [Bool.and_eq_true] at hc
      obtain ⟨h1, h2⟩ := divs hc.1 hc.2
      simp only [Option.some.injEq] at h
      subst h
      simp only [evIntOp, Tm.val, Dat.i_int]
      rw [if_neg (by omega), Int.tmod_eq_emod_of_nonneg h1]
    · cases h
  all_goals first
    | (simp only [Option.some.injEq] at h; subst h; simp [evIntOp, Tm.val])
    | cases h

theorem shlT_ok (hR : FOK F R) {k : IntKind} {a b r : Tm} (h : shlT R k a b = some r) : evShift .shl k (a.val F).i (b.val F).i = some (r.val F).i := by
  unfold shlT at h
  split at h
  · rename_i m
    split at h
    · rename_i hc
      simp only [Bool.and_eq_true, decide_eq_true_eq] at hc
      obtain ⟨⟨h0, h1⟩, h2⟩ := hc
      have hb := Nat.blt_eq.mp h2
      rw [bitsF_eq] at hb
      have hmin : min m.toNat k.bits = m.toNat := by omega
      show evShift .shl k (a.val F).i m = _
      rw [evShl_eq k _ h0, hmin]
      generalize hp : ((2 ^ m.toNat : Nat) : Int) = p at *
      have hpos : 0 < p := by rw [← hp]; have := Nat.two_pow_pos m.toNat; omega
      split at h
      · rename_i k' x n
        split at h
        · rename_i hd
          simp only [Bool.and_eq_true, decide_eq_true_eq, kindBeq] at hd
          obtain ⟨⟨⟨rfl, rfl⟩, hn⟩, hw⟩ := hd
          simp only [Option.some.injEq] at h
          subst h
          have hx := Iv.within_ok hw (rng_ok hR x)
          rw [lsub_val]
          simp only [Tm.val, Dat.i_int]
          rw [evShr_eq k _ h0, hmin, hp, Option.getD_some, Int.fdiv_eq_ediv_of_nonneg _ (by omega)]
          have e := Int.mul_ediv_add_emod (x.val F).i p
          have e2 := Int.emod_nonneg (x.val F).i (show p ≠ 0 by omega)
          have e3 : (x.val F).i / p * p = (x.val F).i - (x.val F).i % p := by rw [Int.mul_comm]; omega
          rw [e3]
          have e4 : 0 ≤ (x.val F).i / p * p := Int.mul_nonneg (Int.ediv_nonneg hx.1 (by omega)) (by omega)
          have := zero_rng k
          rw [wrapF_in k _ (by omega) (by omega)]
        · cases h
      · split at h
        · rename_i hw
          simp only [Option.some.injEq] at h
          subst h
          have hx := Iv.within_ok hw (rng_ok hR _)
          rw [lscale_val] at hx ⊢
          rw [Int.mul_comm, wrapF_in k _ hx.1 hx.2]
        · cases h
    · cases h
  · cases h
theorem shiftT_ok (hR : FOK F R) {op : BinOp} {k : IntKind} {a b r : Tm} (h : shiftT R op k a b = some r) : evShift op k (a.val F).i (b.val F).i = some (r.val F).i := by
  unfold shiftT at h
  split at h
  · split at h
    · rename_i hn
      have := nn_ok hR hn
      split at h
      · rename_i t ht
        simp only [Option.some.injEq] at h
        subst h
        exact shlT_ok hR ht
      simp only [Option.some.injEq] at h
      subst h
      simp only [Tm.val, Dat.i_int, evShl_eq k _ this, Option.getD_some]
    · cases h
  · split at h
    · rename_i hn
      have := nn_ok hR hn
      simp only [Option.some.injEq] at h
      subst h
      simp only [Tm.val, Dat.i_int, evShr_eq k _ this, Option.getD_some]
    · cases h
  · cases h

theorem run_shift {op : BinOp} (hs : isShift op = true) {k k' : IntKind} {t : TypeId} {a b n : Int} (hn : evShift op k a b = some n) (w : World) : (binOp op t (.int k a) (.int k' b)).run P w = .ok (.int k n) w := by
  unfold evShift at hn
  split at hn
  · cases hn
  · rename_i hb
    cases op <;> simp only [isShift, Bool.false_eq_true] at hs <;> simp only [Option.some.injEq] at hn <;> subst hn <;>
      simp [binOp, Op.shift, hb, wrapF_eq]

theorem run_arith {op : BinOp} (hs : ¬ isShift op = true) (hcm : ¬ isCmp op = true) {k : IntKind} {t : TypeId} {a b n : Int} (hn : evIntOp op k a b = some n) (w : World) : (binOp op t (.int k a) (.int k b)).run P w = .ok (.int k n) w := by
  have hbin : binOp op t (.int k a) (.int k b) =
      (match op with
      | .add | .sub | .mul => Op.intArith op k a b
      | .quo | .rem => Op.intDiv op k a b
      | .and | .or | .xor | .andNot => Op.intBits op k a b
      | _ => Op.intCmp op a b) := by
    cases op <;> simp [isShift] at hs <;> simp [binOp]
  rw [hbin]
  cases op <;> simp [isCmp, isShift] at hcm hs <;> simp only [evIntOp] at hn <;> first
    | (simp only [Option.some.injEq, wrapF_eq] at hn; subst hn; rfl)
    | (split at hn
       · cases hn
       · rename_i hb
         simp only [Option.some.injEq, wrapF_eq] at hn
         subst hn
         simp [Op.intDiv, hb])

theorem strOp_ok (hR : FOK F R) {op : BinOp} {a b : Tm} {r : AV} (h : strOp R op a b = some r) {t : TypeId} (w : World) :
    ∃ rv, (binOp op t (.string (bytesOf (a.val F).d)) (.string (bytesOf (b.val F).d))).run P w = .ok rv w ∧ VR F σ r rv := by
  unfold strOp at h
  have hl := bytesOf_toList (a.val F).d
  have hl2 := bytesOf_toList (b.val F).d
  split at h
  · simp only [Option.some.injEq] at h; subst h
    exact ⟨_, by simp [binOp, Op.stringOp, hl, hl2, Tm.val], mkB_ok hR _⟩
  · simp only [Option.some.injEq] at h; subst h
    exact ⟨_, by simp [binOp, Op.stringOp, hl, hl2, Tm.val], mkB_ok hR _⟩
  · simp only [Option.some.injEq] at h; subst h
    exact ⟨_, by simp [binOp, Op.stringOp, hl, hl2, Tm.val], mkB_ok hR _⟩
  · simp only [Option.some.injEq] at h; subst h
    exact ⟨_, by simp [binOp, Op.stringOp, hl, hl2, Tm.val], mkB_ok hR _⟩
  · simp only [Option.some.injEq] at h; subst h
    exact ⟨_, by simp [binOp, Op.stringOp, hl, hl2, Tm.val], mkB_ok hR _⟩
  · simp only [Option.some.injEq] at h; subst h
    exact ⟨_, by simp [binOp, Op.stringOp, hl, hl2, Tm.val], mkB_ok hR _⟩
  · split at h
    · rename_i hle
      simp only [Option.some.injEq] at h; subst h
      have h1 := leq_ok hR hle
      rw [lenT_ok hR, dapp_ok, List.length_append] at h1
      simp only [Tm.val, Dat.i_int] at h1
      have hsz : ∀ l : List UInt8, (bytesOf l).size = l.length := fun l => by simp [bytesOf, ByteArray.size]
      have hmax : ¬ ((((bytesOf (a.val F).d).size + (bytesOf (b.val F).d).size : Nat) : Int) > IntKind.i64.max) := by
        rw [hsz, hsz, IntKind.max_i64]; omega
      refine ⟨.string (bytesOf (a.val F).d ++ bytesOf (b.val F).d), ?_, ?_⟩
      · simp only [binOp, Op.stringOp, hmax, if_false, Sem.run_pure]
      · have := mkS_ok (F := F) (σ := σ) (dapp a b)
        rw [dapp_ok] at this
        have e : bytesOf (a.val F).d ++ bytesOf (b.val F).d = bytesOf ((a.val F).d ++ (b.val F).d) := by
          apply ByteArray.ext
          simp [bytesOf]
        rw [e]; exact this
    · cases h
  · cases h

theorem bin_ok (hR : FOK F R) {op : BinOp} {t : TypeId} {x y r : AV} {c : Bool} (h : evBin P R c op t x y = some r) {vx vy : Value} (hx : VR F σ x vx) (hy : VR F σ y vy) (w : World) (xo yo : Operand) (hc : c = (isConst xo || isConst yo)) :
    ∃ rv, (do eqGuard op t xo yo vx vy; binOp op t vx vy : Sem Value).run P w = .ok rv w ∧ VR F σ r rv := by
  unfold evBin at h
  split at h
  · rename_i k a k' b
    simp only [VR] at hx hy
    subst hx hy
    simp only [eqGuard_at_int, Sem.run_bind, Sem.run_pure, Result.andThen_ok]
    split at h
    · rename_i hs
      split at h
      · rename_i a b
        split at h
        · rename_i n hn
          simp only [Option.some.injEq] at h
          subst h
          exact ⟨_, run_shift hs (by simpa [Tm.val] using hn) w, by simp only [VR, Tm.val, Dat.i_int]⟩
        · cases h
      · split at h
        · rename_i n hn
          simp only [Option.some.injEq] at h
          subst h
          exact ⟨_, run_shift hs (shiftT_ok hR hn) w, by simp only [VR]⟩
        · cases h
    · rename_i hs
      split at h
      · cases h
      · rename_i hk
        simp only [ne_eq, Decidable.not_not] at hk
        subst hk
        split at h
        · rename_i hcm
          split at h
          · rename_i r' hr
            simp only [Option.some.injEq] at h
            subst h
            refine ⟨_, ?_, mkB_ok hR r'⟩
            rw [← cmpT_ok hr P w]
            cases op <;> simp [isCmp] at hcm <;> simp [binOp]
          · cases h
        · rename_i hcm
          split at h
          · rename_i a b
            split at h
            · rename_i n hn
              simp only [Option.some.injEq] at h
              subst h
              exact ⟨_, run_arith hs hcm (by simpa [Tm.val] using hn) w, by simp only [VR, Tm.val, Dat.i_int]⟩
            · cases h
          · split at h
            · rename_i n hn
              simp only [Option.some.injEq] at h
              subst h
              exact ⟨_, run_arith hs hcm (arith_ok hR hn) w, by simp only [VR]⟩
            · cases h
  · simp only [VR] at hx hy
    subst hx hy
    simp only [eqGuard_at_string, Sem.run_bind, Sem.run_pure, Result.andThen_ok]
    exact strOp_ok hR h w
  · simp only [VR] at hx hy
    subst hx hy
    simp only [eqGuard_at_string, Sem.run_bind, Sem.run_pure, Result.andThen_ok]
    exact strOp_ok hR h w
  · simp only [VR] at hx hy
    subst hx hy
    simp only [eqGuard_at_string, Sem.run_bind, Sem.run_pure, Result.andThen_ok]
    exact strOp_ok hR h w
  · simp only [VR] at hx hy
    subst hx hy
    simp only [eqGuard_at_string, Sem.run_bind, Sem.run_pure, Result.andThen_ok]
    exact strOp_ok hR h w
  · split at h
    · split at h
      · rename_i r' hr
        simp only [Option.some.injEq] at h
        subst h
        obtain ⟨⟨h1, h2⟩, _⟩ := eqT_ok hR hr hx hy w xo yo hc
        exact ⟨_, by simp only [Sem.run_bind, h1, Result.andThen_ok, h2], mkB_ok hR r'⟩
      · cases h
    · split at h
      · rename_i r' hr
        simp only [Option.some.injEq] at h
        subst h
        obtain ⟨_, h1, h2⟩ := eqT_ok hR hr hx hy w xo yo hc
        exact ⟨_, by simp only [Sem.run_bind, h1, Result.andThen_ok, h2]; rfl, mkB_ok hR (.not r')⟩
      · cases h
    · cases h
end
end
end Go.Sy
