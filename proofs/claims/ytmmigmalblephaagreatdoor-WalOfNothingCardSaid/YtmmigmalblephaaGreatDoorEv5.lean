/- Addresses, parts, numbers, comparisons, conversions, lengths: the evaluator's and the model's agree. Conditions: the named integers lie in the ranges that were told. -/
import Derived.Test.YtmmigmalblephaaGreatDoorEv4
import Derived.Laws.StructEq
namespace Go.Sx
open Go.RowKit
noncomputable section

/-- Known ranges of the named integers. -/
abbrev Ranges := List (Nat × Int × Int)
def rlook : Ranges → Nat → Option (Int × Int)
  | [], _ => none
  | (j, a, b) :: l, i => if j = i then some (a, b) else rlook l i
def RangeOK (F : Fix) (R : Ranges) : Prop := ∀ i a b, rlook R i = some (a, b) → a ≤ F.ρ i ∧ F.ρ i ≤ b

def SI.rng (R : Ranges) : SI → Option (Int × Int)
  | .lit n => some (n, n)
  | .var i => rlook R i
theorem SI.rng_ok {F : Fix} {R : Ranges} (hR : RangeOK F R) {e : SI} {a b : Int} (h : e.rng R = some (a, b)) : a ≤ e.val F.ρ ∧ e.val F.ρ ≤ b := by
  cases e with
  | lit n => simp only [SI.rng, Option.some.injEq, Prod.mk.injEq] at h; obtain ⟨rfl, rfl⟩ := h; simp [SI.val]
  | var i => exact hR i a b h
def SI.same : SI → SI → Bool
  | .var i, .var j => i == j
  | _, _ => false
theorem SI.same_ok {x y : SI} (h : x.same y = true) (ρ : Nat → Int) : x.val ρ = y.val ρ := by
  cases x <;> cases y <;> simp_all [SI.same, SI.val]

def cmpSI (R : Ranges) (op : BinOp) (x y : SI) : Option Bool :=
  match x.rng R, y.rng R with
  | some (a, b), some (c, d) =>
    match op with
    | .lss => if b < c then some true else if d ≤ a then some false else none
    | .leq => if b ≤ c then some true else if d < a then some false else none
    | .gtr => if d < a then some true else if b ≤ c then some false else none
    | .geq => if d ≤ a then some true else if b < c then some false else none
    | .eql => if x.same y then some true else if b < c ∨ d < a then some false else if a = b ∧ c = d ∧ a = c then some true else none
    | .neq => if x.same y then some false else if b < c ∨ d < a then some true else if a = b ∧ c = d ∧ a = c then some false else none
    | _ => none
  | _, _ => none

theorem cmpSI_ok {F : Fix} {R : Ranges} (hR : RangeOK F R) {op : BinOp} {x y : SI} {r : Bool} (h : cmpSI R op x y = some r) (P : Program) (w : World) :
    (Op.intCmp op (x.val F.ρ) (y.val F.ρ)).run P w = .ok (.bool r) w := by
  unfold cmpSI at h
  split at h
  · rename_i a b c d hx hy
    obtain ⟨h1, h2⟩ := SI.rng_ok hR hx
    obtain ⟨h3, h4⟩ := SI.rng_ok hR hy
    generalize hxv : x.val F.ρ = xv at *
    generalize hyv : y.val F.ρ = yv at *
    have hsame : x.same y = true → xv = yv := fun hs => by rw [← hxv, ← hyv]; exact SI.same_ok hs _
    have fin : ∀ (b : Bool) (p : Prop) [Decidable p], (p ↔ b = true) → (Result.ok (Value.bool (decide p)) w : Result Value) = .ok (.bool b) w := by
      intro b p _ hp
      congr 2
      cases b <;> simp_all
    split at h
    · simp only [Op.intCmp, Sem.run_pure]
      split at h
      · simp only [Option.some.injEq] at h; subst h; exact fin _ _ (by simp; omega)
      · split at h
        · simp only [Option.some.injEq] at h; subst h; exact fin _ _ (by simp; omega)
        · cases h
    · simp only [Op.intCmp, Sem.run_pure]
      split at h
      · simp only [Option.some.injEq] at h; subst h; exact fin _ _ (by simp; omega)
      · split at h
        · simp only [Option.some.injEq] at h; subst h; exact fin _ _ (by simp; omega)
        · cases h
    · simp only [Op.intCmp, Sem.run_pure]
      split at h
      · simp only [Option.some.injEq] at h; subst h; exact fin _ _ (by simp; omega)
      · split at h
        · simp only [Option.some.injEq] at h; subst h; exact fin _ _ (by simp; omega)
        · cases h
    · simp only [Op.intCmp, Sem.run_pure]
      split at h
      · simp only [Option.some.injEq] at h; subst h; exact fin _ _ (by simp; omega)
      · split at h
        · simp only [Option.some.injEq] at h; subst h; exact fin _ _ (by simp; omega)
        · cases h
    · simp only [Op.intCmp, Sem.run_pure]
      split at h
      · rename_i hs
        simp only [Option.some.injEq] at h; subst h
        simp [hsame hs]
      · split at h
        · simp only [Option.some.injEq] at h; subst h
          have : xv ≠ yv := by omega
          simp [this]
        · split at h
          · simp only [Option.some.injEq] at h; subst h
            have : xv = yv := by omega
            simp [this]
          · cases h
    · simp only [Op.intCmp, Sem.run_pure]
      split at h
      · rename_i hs
        simp only [Option.some.injEq] at h; subst h
        simp [hsame hs]
      · split at h
        · simp only [Option.some.injEq] at h; subst h
          have : xv ≠ yv := by omega
          simp [this]
        · split at h
          · simp only [Option.some.injEq] at h; subst h
            have : xv = yv := by omega
            simp [this]
          · cases h
    · cases h
  · cases h

def isCmp : BinOp → Bool
  | .eql | .neq | .lss | .leq | .gtr | .geq => true
  | _ => false

/-- The model's wrap, by constants. -/
def wrapF : IntKind → Int → Int
  | .i8, n => (n + 128) % 256 - 128
  | .i16, n => (n + 32768) % 65536 - 32768
  | .i32, n => (n + 2147483648) % 4294967296 - 2147483648
  | .i64, n => (n + 9223372036854775808) % 18446744073709551616 - 9223372036854775808
  | .u8, n => n % 256
  | .u16, n => n % 65536
  | .u32, n => n % 4294967296
  | .u64, n => n % 18446744073709551616

theorem wrapF_eq (k : IntKind) (n : Int) : wrapF k n = k.wrap n := by
  cases k <;> simp only [wrapF, IntKind.wrap, IntKind.bits, IntKind.signed, Bool.true_and, Bool.false_and, Bool.false_eq_true, if_false] <;> (try split) <;> simp_all <;> omega

def bitsF (k : IntKind) : Nat := match k with
  | .i8 | .u8 => 8
  | .i16 | .u16 => 16
  | .i32 | .u32 => 32
  | .i64 | .u64 => 64

/-- Two known numbers. -/
def evIntOp (op : BinOp) (k : IntKind) (a b : Int) : Option Int :=
  match op with
  | .add => some (wrapF k (a + b))
  | .sub => some (wrapF k (a - b))
  | .mul => some (wrapF k (a * b))
  | .quo => if b = 0 then none else some (wrapF k (a.tdiv b))
  | .rem => if b = 0 then none else some (a.tmod b)
  | .and => some (wrapF k ((BitVec.ofInt k.bits a &&& BitVec.ofInt k.bits b).toNat : Int))
  | .or => some (wrapF k ((BitVec.ofInt k.bits a ||| BitVec.ofInt k.bits b).toNat : Int))
  | .xor => some (wrapF k ((BitVec.ofInt k.bits a ^^^ BitVec.ofInt k.bits b).toNat : Int))
  | .andNot => some (wrapF k ((BitVec.ofInt k.bits a &&& ~~~(BitVec.ofInt k.bits b)).toNat : Int))
  | _ => none

def evShift (op : BinOp) (k : IntKind) (a b : Int) : Option Int :=
  if b < 0 then none else
  match op with
  | .shl => some (wrapF k (a * ((2 ^ (min b.toNat k.bits) : Nat) : Int)))
  | .shr => some (a.fdiv ((2 ^ (min b.toNat k.bits) : Nat) : Int))
  | _ => none

def isShift : BinOp → Bool
  | .shl | .shr => true
  | _ => false

def scalarEq (P : Program) (R : Ranges) (t : TypeId) : AV → AV → Option Bool
  | .int k a, .int k' b => match P.underlying t with
    | some (.int _) => if k = k' then cmpSI R .eql a b else none
    | _ => none
  | .bool a, .bool b => match P.underlying t with
    | some .bool => some (a == b)
    | _ => none
  | .str a, .str b => match P.underlying t with
    | some .string => some (a == b)
    | _ => none
  | _, _ => none

def fieldsEq (P : Program) (R : Ranges) (xs ys : List AV) : List Field → Option Bool
  | [] => some true
  | f :: fs =>
    if f.name ≠ "_" then
      match isAggT P f.type, xs[f.offset]?, ys[f.offset]? with
      | some false, some a, some b =>
        match scalarEq P R f.type a b with
        | some true => fieldsEq P R xs ys fs
        | some false => some false
        | none => none
      | _, _, _ => none
    else fieldsEq P R xs ys fs

/-- '==' on what is no integer. -/
def evEq (P : Program) (R : Ranges) (t : TypeId) (x y : AV) : Option Bool :=
  match x, y with
  | .bool a, .bool b => match P.underlying t with
    | some .bool => some (a == b)
    | _ => none
  | .nilptr, .nilptr => match P.underlying t with
    | some (.pointer _) => some true
    | _ => none
  | .nilptr, .ptr _ _ | .ptr _ _, .nilptr => match P.underlying t with
    | some (.pointer _) => some false
    | _ => none
  | .nilsl, .nilsl => match P.underlying t with
    | some (.slice _) => some true
    | _ => none
  | .nilsl, .sl _ _ _ _ | .sl _ _ _ _, .nilsl | .nilsl, .dsl _ _ _ _ | .dsl _ _ _ _, .nilsl | .nilsl, .arg _ _ | .arg _ _, .nilsl | .nilsl, .argz | .argz, .nilsl => match P.underlying t with
    | some (.slice _) => some false
    | _ => none
  | .nilmap, .nilmap => match P.underlying t with
    | some (.map _ _) => some true
    | _ => none
  | .nilmap, .map _ | .map _, .nilmap => match P.underlying t with
    | some (.map _ _) => some false
    | _ => none
  | .agg xs, .agg ys => match P.underlying t with
    | some (.struct fs) => if P.eqGuardType P.depth t = false ∧ P.stoodInHeld t = false then fieldsEq P R xs ys fs.toList else none
    | _ => none
  | _, _ => none

/-- The sum of two integers that are named: its own name, where it is told to fit. -/
def evSum (R : Ranges) (k : IntKind) : SI → SI → Option SI
  | .var a, .var b => if b < 2000 then match rlook R (1001 + 2 * (2000 * a + b)) with
    | some (x, y) => if k.min ≤ x ∧ y ≤ k.max then some (.var (1001 + 2 * (2000 * a + b))) else none
    | none => none
    else none
  | .lit a, .var b => if a = 0 then match rlook R b with
    | some (x, y) => if k.min ≤ x ∧ y ≤ k.max then some (.var b) else none
    | none => none
    else none
  | _, _ => none
theorem evSum_ok {F : Fix} {R : Ranges} (hR : RangeOK F R) {k : IntKind} {a b c : SI} (h : evSum R k a b = some c) : k.wrap (a.val F.ρ + b.val F.ρ) = c.val F.ρ := by
  unfold evSum at h
  split at h
  · rename_i i j
    split at h
    · rename_i hj
      split at h
      · rename_i x y hr
        split at h
        · rename_i hk
          simp only [Option.some.injEq] at h
          subst h
          have h1 := hR _ _ _ hr
          simp only [SI.val]
          rw [F.sum i j hj] at h1 ⊢
          exact wrap_in k _ (by omega) (by omega)
        · cases h
      · cases h
    · cases h
  · rename_i i j
    split at h
    · rename_i hi
      subst hi
      split at h
      · rename_i x y hr
        split at h
        · rename_i hk
          simp only [Option.some.injEq] at h
          subst h
          have h1 := hR _ _ _ hr
          simp only [SI.val, Int.zero_add]
          exact wrap_in k _ (by omega) (by omega)
        · cases h
      · cases h
    · cases h
  · cases h

def evBin (P : Program) (R : Ranges) (op : BinOp) (t : TypeId) (x y : AV) : Option AV :=
  match x, y with
  | .int k a, .int k' b =>
    if isShift op then
      match a, b with
      | .lit a, .lit b => match evShift op k a b with
        | some n => some (.int k (.lit n))
        | none => none
      | _, _ => none
    else if k ≠ k' then none
    else if isCmp op then match cmpSI R op a b with
      | some r => some (.bool r)
      | none => none
    else
      match a, b with
      | .lit a, .lit b => match evIntOp op k a b with
        | some n => some (.int k (.lit n))
        | none => none
      | a, b => match op with
        | .add => match evSum R k a b with
          | some c => some (.int k c)
          | none => none
        | _ => none
  | .str a, .str b =>
    match op with
    | .eql => some (.bool (a == b))
    | .neq => some (.bool !(a == b))
    | .add => if a.length + b.length ≤ 4194304 then some (.str (a ++ b)) else none
    | _ => none
  | _, _ =>
    match op with
    | .eql => match evEq P R t x y with
      | some r => some (.bool r)
      | none => none
    | .neq => match evEq P R t x y with
      | some r => some (.bool !r)
      | none => none
    | _ => none

section
variable {F : Fix} {B : Nat} {w0 : World} {σ : Sig} {w : World} {s : AS} {P : Program} {R : Ranges}

theorem bytes_beq (a b : List UInt8) : (bytesOf a).toList == (bytesOf b).toList ↔ a = b := by
  rw [ByteArray.toList_eq, ByteArray.toList_eq]
  simp [bytesOf]

theorem bytes_beq' (a b : List UInt8) : ((bytesOf a).toList == (bytesOf b).toList) = (a == b) := by
  rw [Bool.eq_iff_iff, bytes_beq]; simp

theorem scalarEq_ok (hR : RangeOK F R) {t : TypeId} {x y : AV} {r : Bool} (h : scalarEq P R t x y = some r) {vx vy : Value} (hx : VR F σ x vx) (hy : VR F σ y vy) (d : Nat) (w : World) :
    (Op.equalIn (d + 1) t vx vy).run P w = .ok r w := by
  unfold scalarEq at h
  split at h
  · rename_i k a k' b
    simp only [VR] at hx hy
    subst hx hy
    split at h
    · rename_i k2 hu
      split at h
      · rename_i hk
        subst hk
        have := cmpSI_ok hR h P w
        simp only [Op.intCmp, Sem.run_pure, Result.ok.injEq, Value.bool.injEq, and_true] at this
        rw [run_equalIn_int w d t k k2 _ _ hu, this]
      · cases h
    · cases h
  · simp only [VR] at hx hy
    subst hx hy
    split at h
    · rename_i hu
      simp only [Option.some.injEq] at h
      subst h
      exact run_equalIn_bool' w d t _ _ hu
    · cases h
  · simp only [VR] at hx hy
    subst hx hy
    split at h
    · rename_i hu
      simp only [Option.some.injEq] at h
      subst h
      rw [run_equalIn_string w d t _ _ hu, bytes_beq']
    · cases h
  · cases h

theorem fieldsEq_ok (hR : RangeOK F R) {xs ys : List AV} {vxs vys : List Value} (hx : VRs F σ xs vxs) (hy : VRs F σ ys vys) (d : Nat) (w : World) : ∀ (fs : List Field) (r : Bool), fieldsEq P R xs ys fs = some r →
    (Op.eqFields (d + 1) vxs.toArray vys.toArray fs).run P w = .ok r w
  | [], r, h => by simp only [fieldsEq, Option.some.injEq] at h; subst h; simp [Op.eqFields]
  | f :: fs, r, h => by
    simp only [fieldsEq] at h
    split at h
    · rename_i hn
      split at h
      · rename_i a b hagg hxa hyb
        obtain ⟨va, hva, hra⟩ := hx.get _ _ hxa
        obtain ⟨vb, hvb, hrb⟩ := hy.get _ _ hyb
        have pa : (part f.type vxs.toArray f.offset).run P w = .ok va w := by simp [part, run_isAggT hagg, hva]
        have pb : (part f.type vys.toArray f.offset).run P w = .ok vb w := by simp [part, run_isAggT hagg, hvb]
        simp only [Op.eqFields, hn, ne_eq, not_false_eq_true, if_true, Sem.run_bind, pa, pb, Result.andThen_ok]
        split at h
        · rename_i he
          rw [scalarEq_ok hR he hra hrb d w]
          simp only [Result.andThen_ok, Bool.not_true, Bool.false_eq_true, if_false]
          exact fieldsEq_ok hR hx hy d w fs r h
        · rename_i he
          simp only [Option.some.injEq] at h
          subst h
          rw [scalarEq_ok hR he hra hrb d w]
          simp
        · cases h
      · cases h
    · rename_i hn
      simp only [Op.eqFields, hn, if_false]
      exact fieldsEq_ok hR hx hy d w fs r h

theorem eq_of {t : TypeId} {vx vy : Value} {r : Bool} (w : World) (xo yo : Operand) (hg : ∀ op, eqGuard op t xo yo vx vy = pure ()) (h1 : binOp .eql t vx vy = (do pure (.bool (← Op.equal t vx vy)))) (h2 : binOp .neq t vx vy = (do pure (.bool (!(← Op.equal t vx vy)))))
    (he : ∀ d, (Op.equalIn (d + 1) t vx vy).run P w = .ok r w) :
    ((eqGuard .eql t xo yo vx vy).run P w = .ok () w ∧ (binOp .eql t vx vy).run P w = .ok (.bool r) w) ∧ ((eqGuard .neq t xo yo vx vy).run P w = .ok () w ∧ (binOp .neq t vx vy).run P w = .ok (.bool !r) w) := by
  have hq : (Op.equal t vx vy).run P w = .ok r w := he 9999
  rw [hg, hg, h1, h2]
  simp only [Sem.run_bind, hq, Result.andThen_ok, Sem.run_pure, and_self]

theorem eq_ok (hR : RangeOK F R) {t : TypeId} {x y : AV} {r : Bool} (h : evEq P R t x y = some r) {vx vy : Value} (hx : VR F σ x vx) (hy : VR F σ y vy) (w : World) (xo yo : Operand) :
    ((eqGuard .eql t xo yo vx vy).run P w = .ok () w ∧ (binOp .eql t vx vy).run P w = .ok (.bool r) w) ∧ ((eqGuard .neq t xo yo vx vy).run P w = .ok () w ∧ (binOp .neq t vx vy).run P w = .ok (.bool !r) w) := by
  unfold evEq at h
  split at h
  case h_1 =>
    simp only [VR] at hx hy
    subst hx hy
    split at h
    · rename_i hu
      simp only [Option.some.injEq] at h
      subst h
      exact eq_of w xo yo (fun op => eqGuard_at_bool ..) rfl rfl (fun d => by simp [Op.equalIn, run_underlying hu])
    · cases h
  case h_17 =>
    simp only [VR] at hx hy
    obtain ⟨l1, hl1, rfl⟩ := hx
    obtain ⟨l2, hl2, rfl⟩ := hy
    split at h
    · rename_i fs hu
      split at h
      · rename_i hc
        have hfo : P.fieldsOf t = fs := by simp [Program.fieldsOf, hu]
        have hst := run_equalIn_struct w 9999 t l1.toArray l2.toArray (by rw [hfo]; exact hu) hc.2
        rw [hfo] at hst
        have hf := fieldsEq_ok (P := P) hR hl1 hl2 9998 w fs.toList r h
        refine ⟨⟨run_eqGuard_agg w .eql t xo yo _ _ hc.1, ?_⟩, run_eqGuard_agg w .neq t xo yo _ _ hc.1, ?_⟩
        · rw [run_eql_struct, hst, hf]; rfl
        · rw [run_neq_struct, hst, hf]; rfl
      · cases h
    · cases h
  all_goals first
    | (cases h; done)
    | (split at h
       · rename_i hu
         simp only [Option.some.injEq] at h
         subst h
         simp only [VR] at hx hy
         (first | obtain ⟨_, _, _, _, rfl⟩ := hx | obtain ⟨_, _, _, rfl⟩ := hx | obtain ⟨_, _, rfl⟩ := hx | skip)
         (first | obtain ⟨_, _, _, _, rfl⟩ := hy | obtain ⟨_, _, _, rfl⟩ := hy | obtain ⟨_, _, rfl⟩ := hy | skip)
         (try subst hx)
         (try subst hy)
         refine eq_of w xo yo (fun op => ?_) rfl rfl (fun d => by simp [Op.equalIn, run_underlying hu])
         first
           | exact eqGuard_at_pointer ..
           | exact eqGuard_at_slice ..
           | exact eqGuard_at_map ..
       · cases h)

theorem bin_ok (hR : RangeOK F R) {op : BinOp} {t : TypeId} {x y r : AV} (h : evBin P R op t x y = some r) {vx vy : Value} (hx : VR F σ x vx) (hy : VR F σ y vy) (w : World) (xo yo : Operand) :
    ∃ rv, (do eqGuard op t xo yo vx vy; binOp op t vx vy : Sem Value).run P w = .ok rv w ∧ VR F σ r rv := by
  unfold evBin at h
  split at h
  · rename_i k a k' b
    simp only [VR] at hx hy
    subst hx hy
    simp only [eqGuard_at_int, Sem.run_bind, Sem.run_pure, Result.andThen_ok]
    split at h
    · rename_i hs
      split at h
      · rename_i a b
        split at h
        · rename_i n hn
          simp only [Option.some.injEq] at h
          subst h
          unfold evShift at hn
          split at hn
          · cases hn
          · rename_i hb
            refine ⟨_, ?_, by simp only [VR]; rfl⟩
            cases op <;> simp only [isShift, Bool.false_eq_true] at hs <;> simp only [Option.some.injEq] at hn <;> subst hn <;>
              simp [binOp, Op.shift, SI.val, hb, wrapF_eq]
        · cases h
      · cases h
    · rename_i hs
      split at h
      · cases h
      · rename_i hk
        simp only [ne_eq, Decidable.not_not] at hk
        subst hk
        have hbin : binOp op t (.int k (a.val F.ρ)) (.int k (b.val F.ρ)) =
            (match op with
            | .add | .sub | .mul => Op.intArith op k (a.val F.ρ) (b.val F.ρ)
            | .quo | .rem => Op.intDiv op k (a.val F.ρ) (b.val F.ρ)
            | .and | .or | .xor | .andNot => Op.intBits op k (a.val F.ρ) (b.val F.ρ)
            | _ => Op.intCmp op (a.val F.ρ) (b.val F.ρ)) := by
          cases op <;> simp [isShift] at hs <;> simp [binOp]
        split at h
        · rename_i hcm
          split at h
          · rename_i r' hr
            simp only [Option.some.injEq] at h
            subst h
            refine ⟨.bool r', ?_, by simp only [VR]⟩
            have := cmpSI_ok hR hr P w
            rw [hbin]
            cases op <;> simp [isCmp] at hcm <;> exact this
          · cases h
        · rename_i hcm
          split at h
          · rename_i a b
            split at h
            · rename_i n hn
              simp only [Option.some.injEq] at h
              subst h
              refine ⟨.int k n, ?_, by simp only [VR, SI.val]⟩
              rw [hbin]
              cases op <;> simp [isCmp, isShift] at hcm hs <;> simp only [evIntOp] at hn <;> first
                | (simp only [Option.some.injEq, wrapF_eq] at hn; subst hn; rfl)
                | (split at hn
                   · cases hn
                   · rename_i hb
                     simp only [Option.some.injEq, wrapF_eq] at hn
                     subst hn
                     simp [Op.intDiv, SI.val, hb])
            · cases h
          · split at h
            · split at h
              · rename_i c hc
                simp only [Option.some.injEq] at h
                subst h
                refine ⟨.int k (c.val F.ρ), ?_, by simp only [VR]⟩
                rw [hbin, ← evSum_ok hR hc]
                rfl
              · cases h
            · cases h
  · rename_i a b
    simp only [VR] at hx hy
    subst hx hy
    simp only [eqGuard_at_string, Sem.run_bind, Sem.run_pure, Result.andThen_ok]
    split at h
    · simp only [Option.some.injEq] at h
      subst h
      refine ⟨_, by simp [binOp, Op.stringOp]; rfl, ?_⟩
      simp only [VR, bytes_beq']
    · simp only [Option.some.injEq] at h
      subst h
      refine ⟨_, by simp [binOp, Op.stringOp]; rfl, ?_⟩
      simp only [VR, bytes_beq']
    · split at h
      · rename_i hl
        simp only [Option.some.injEq] at h
        subst h
        have hsz : ∀ l : List UInt8, (bytesOf l).size = l.length := fun l => by simp [bytesOf, ByteArray.size]
        have hmax : ¬ ((((bytesOf a).size + (bytesOf b).size : Nat) : Int) > IntKind.i64.max) := by
          rw [hsz, hsz, IntKind.max_i64]; omega
        refine ⟨.string (bytesOf a ++ bytesOf b), ?_, ?_⟩
        · simp only [binOp, Op.stringOp, hmax, if_false, Sem.run_pure]
        · simp only [VR, Value.string.injEq]
          apply ByteArray.ext
          simp [bytesOf]
      · cases h
    · cases h
  · split at h
    · split at h
      · rename_i r' hr
        simp only [Option.some.injEq] at h
        subst h
        obtain ⟨⟨h1, h2⟩, _⟩ := eq_ok hR hr hx hy w xo yo
        exact ⟨.bool r', by simp only [Sem.run_bind, h1, Result.andThen_ok, h2], by simp only [VR]⟩
      · cases h
    · split at h
      · rename_i r' hr
        simp only [Option.some.injEq] at h
        subst h
        obtain ⟨_, h1, h2⟩ := eq_ok hR hr hx hy w xo yo
        exact ⟨.bool !r', by simp only [Sem.run_bind, h1, Result.andThen_ok, h2], by simp only [VR]⟩
      · cases h
    · cases h
end
end
end Go.Sx
