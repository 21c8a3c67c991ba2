/- Equality of abstract values and memories, told by a computation; an operation hangs on its operands alone; regions in the order of the text. Conditions: as in the parts before. -/
import Derived.Test.YtpjakhjaicegjaaGreatDoorSy10
namespace Go.Sy
open Go.RowKit
variable {S : Sg}
noncomputable section

def CapE.beq : CapE → CapE → Bool
  | .lit a, .lit b => a == b
  | .rest i, .rest j => i == j
  | _, _ => false
theorem CapE.beq_eq {a b : CapE} (h : a.beq b = true) : a = b := by
  cases a <;> cases b <;> simp_all [CapE.beq]
def fnBeq : Fn → Fn → Bool
  | .func a, .func b => a == b
  | _, _ => false
theorem fnBeq_eq {a b : Fn} (h : fnBeq a b = true) : a = b := by
  cases a <;> cases b <;> simp_all [fnBeq]
def capBeq : CapV → CapV → Bool
  | .rest, .rest => true
  | .tight, .tight => true
  | .any, .any => true
  | _, _ => false
theorem capBeq_eq {a b : CapV} (h : capBeq a b = true) : a = b := by
  cases a <;> cases b <;> simp_all [capBeq]

mutual
def AV.beq : AV → AV → Bool
  | .bool a, .bool b => a == b
  | .int k a, .int l b => kindBeq k l && a.beq b
  | .str a, .str b => a == b
  | .nilptr, .nilptr => true
  | .ptr a b, .ptr c d => a == c && b == d
  | .gptr a b, .gptr c d => a == c && b == d
  | .nilsl, .nilsl => true
  | .sl a b c d, .sl a' b' c' d' => a == a' && b == b' && c == c' && d.beq d'
  | .tb a, .tb b => a.beq b
  | .ts a, .ts b => a.beq b
  | .vw a b c d, .vw a' b' c' d' => a == a' && b.beq b' && c.beq c' && capBeq d d'
  | .rv a b c, .rv a' b' c' => a == a' && b.beq b' && c.beq c'
  | .argl a, .argl b => a.beq b
  | .opq a, .opq b => a.beq b
  | .dp a b c, .dp a' b' c' => a == a' && b.beq b' && c == c'
  | .argz, .argz => true
  | .nilmap, .nilmap => true
  | .map a, .map b => a == b
  | .func f a c, .func f' a' c' => fnBeq f f' && AV.beqs a a' && AV.beqs c c'
  | .nilFunc, .nilFunc => true
  | .iface t v, .iface t' v' => t == t' && AV.beq v v'
  | .nilIface, .nilIface => true
  | .agg a, .agg b => AV.beqs a b
  | .tup a, .tup b => AV.beqs a b
  | _, _ => false
def AV.beqs : List AV → List AV → Bool
  | [], [] => true
  | a :: as, b :: bs => AV.beq a b && AV.beqs as bs
  | _, _ => false
end

mutual
theorem AV.beq_eq : ∀ (a b : AV), a.beq b = true → a = b
  | .func f x c, b, h => by
    cases b <;> simp only [AV.beq, Bool.and_eq_true, Bool.false_eq_true] at h
    rw [fnBeq_eq h.1.1, AV.beqs_eq _ _ h.1.2, AV.beqs_eq _ _ h.2]
  | .iface t v, b, h => by
    cases b <;> simp only [AV.beq, Bool.and_eq_true, Bool.false_eq_true, beq_iff_eq] at h
    rw [h.1, AV.beq_eq _ _ h.2]
  | .agg a, b, h => by
    cases b <;> simp only [AV.beq, Bool.false_eq_true] at h
    rw [AV.beqs_eq _ _ h]
  | .tup a, b, h => by
    cases b <;> simp only [AV.beq, Bool.false_eq_true] at h
    rw [AV.beqs_eq _ _ h]
  | .int k x, b, h => by
    cases b <;> simp only [AV.beq, Bool.and_eq_true, Bool.false_eq_true, kindBeq, decide_eq_true_eq] at h
    rw [h.1, Tm.beq_eq h.2]
  | .sl _ _ _ _, b, h => by
    cases b <;> simp only [AV.beq, Bool.and_eq_true, Bool.false_eq_true, beq_iff_eq] at h
    rw [h.1.1.1, h.1.1.2, h.1.2, CapE.beq_eq h.2]
  | .vw _ _ _ _, b, h => by
    cases b <;> simp only [AV.beq, Bool.and_eq_true, Bool.false_eq_true, beq_iff_eq] at h
    rw [h.1.1.1, Tm.beq_eq h.1.1.2, Tm.beq_eq h.1.2, capBeq_eq h.2]
  | .rv _ _ _, b, h => by
    cases b <;> simp only [AV.beq, Bool.and_eq_true, Bool.false_eq_true, beq_iff_eq] at h
    rw [h.1.1, Tm.beq_eq h.1.2, Tm.beq_eq h.2]
  | .dp _ _ _, b, h => by
    cases b <;> simp only [AV.beq, Bool.and_eq_true, Bool.false_eq_true, beq_iff_eq] at h
    rw [h.1.1, Tm.beq_eq h.1.2, h.2]
  | .tb _, b, h | .ts _, b, h | .argl _, b, h | .opq _, b, h => by
    cases b <;> simp only [AV.beq, Bool.false_eq_true] at h
    rw [Tm.beq_eq h]
  | .bool _, b, h | .str _, b, h | .nilptr, b, h | .ptr _ _, b, h | .gptr _ _, b, h | .nilsl, b, h | .argz, b, h | .nilmap, b, h | .map _, b, h | .nilFunc, b, h | .nilIface, b, h => by
    cases b <;> simp_all [AV.beq]
theorem AV.beqs_eq : ∀ (a b : List AV), AV.beqs a b = true → a = b
  | [], b, h => by cases b <;> simp_all [AV.beqs]
  | a :: as, b, h => by
    cases b <;> simp only [AV.beqs, Bool.and_eq_true, Bool.false_eq_true] at h
    rw [AV.beq_eq _ _ h.1, AV.beqs_eq _ _ h.2]
end

def entBeq : List (AV × AV × Nat) → List (AV × AV × Nat) → Bool
  | [], [] => true
  | (a, b, n) :: l, (c, d, m) :: k => a.beq c && b.beq d && n == m && entBeq l k
  | _, _ => false
theorem entBeq_eq : ∀ {a b : List (AV × AV × Nat)}, entBeq a b = true → a = b
  | [], b, h => by cases b <;> simp_all [entBeq]
  | (x, y, n) :: l, b, h => by
    cases b with
    | nil => simp [entBeq] at h
    | cons z k =>
      obtain ⟨c, d, m⟩ := z
      simp only [entBeq, Bool.and_eq_true, beq_iff_eq] at h
      rw [AV.beq_eq _ _ h.1.1.1, AV.beq_eq _ _ h.1.1.2, h.1.2, entBeq_eq h.2]

def AObj.beq : AObj → AObj → Bool
  | .cells a e, .cells b f => AV.beqs a b && e == f
  | .row a e n, .row b f m => AV.beqs a b && e == f && n == m
  | .data a b, .data d e => a.beq d && b == e
  | .rdata a, .rdata d => a.beq d
  | .chunk c a t, .chunk c' a' t' => c == c' && AV.beqs a a' && t.beq t'
  | .fro a e, .fro b f => AV.beqs a b && e == f
  | .map a c, .map b d => entBeq a b && c == d
  | .striter a b, .striter c d => a == c && b == d
  | .mapiter a b c d, .mapiter a' b' c' d' => a == a' && b == b' && c == c' && d == d'
  | .dead, .dead => true
  | _, _ => false
theorem AObj.beq_eq {a b : AObj} (h : a.beq b = true) : a = b := by
  cases a <;> cases b <;> simp only [AObj.beq, Bool.and_eq_true, Bool.false_eq_true, beq_iff_eq] at h
  · rw [AV.beqs_eq _ _ h.1, h.2]
  · rw [AV.beqs_eq _ _ h.1.1, h.1.2, h.2]
  · rw [Tm.beq_eq h.1, h.2]
  · rw [Tm.beq_eq h]
  · rw [AV.beqs_eq _ _ h.1, h.2]
  · rw [entBeq_eq h.1, h.2]
  · rw [h.1, h.2]
  · rw [h.1.1.1, h.1.1.2, h.1.2, h.2]
  · rw [h.1.1, AV.beqs_eq _ _ h.1.2, Tm.beq_eq h.2]
  · rfl

def optBeq : Option AObj → Option AObj → Bool
  | none, none => true
  | some a, some b => a.beq b
  | _, _ => false
theorem optBeq_eq {a b : Option AObj} (h : optBeq a b = true) : a = b := by
  cases a <;> cases b <;> simp_all [optBeq]
  exact AObj.beq_eq h
def Tr.beq : Tr AObj → Tr AObj → Bool
  | .nil, .nil => true
  | .node l o r, .node l' o' r' => optBeq o o' && Tr.beq l l' && Tr.beq r r'
  | _, _ => false
theorem Tr.beq_eq : ∀ {a b : Tr AObj}, a.beq b = true → a = b
  | .nil, b, h => by cases b <;> simp_all [Tr.beq]
  | .node l o r, b, h => by
    cases b with
    | nil => simp [Tr.beq] at h
    | node l' o' r' =>
      simp only [Tr.beq, Bool.and_eq_true] at h
      rw [optBeq_eq h.1.1, Tr.beq_eq h.1.2, Tr.beq_eq h.2]

/-- Two frames agree on what an operation looks at. -/
theorem evO_congr {tm tm' : Fr} {x : Operand} (h : ∀ t, x = .tmp t → fget tm t = fget tm' t) : evO tm x = evO tm' x := by
  cases x with
  | tmp t => simp only [evO]; rw [h t rfl]
  | _ => rfl

def agree (tm tm' : Fr) (x : Operand) : Prop := evO tm x = evO tm' x

theorem evOs_congr {tm tm' : Fr} : ∀ {l : List Operand}, (∀ x ∈ l, evO tm x = evO tm' x) → evOs tm l = evOs tm' l
  | [], _ => rfl
  | x :: l, h => by
    have ih := evOs_congr (l := l) (fun y hy => h y (List.mem_cons_of_mem _ hy))
    simp only [evOs, h x (by simp), ih]
theorem evParts_congr {tm tm' : Fr} : ∀ {l : List (Nat × Operand)}, (∀ x ∈ l, evO tm x.2 = evO tm' x.2) → evParts tm l = evParts tm' l
  | [], _ => rfl
  | (i, x) :: l, h => by
    have ih := evParts_congr (l := l) (fun y hy => h y (List.mem_cons_of_mem _ hy))
    have hx : evO tm x = evO tm' x := h (i, x) (by simp)
    simp only [evParts, hx, ih]
theorem evOpt_congr {tm tm' : Fr} {o : Option Operand} (h : ∀ x, o = some x → evO tm x = evO tm' x) : evOpt tm o = evOpt tm' o := by
  cases o with
  | none => rfl
  | some x => simp only [evOpt, h x rfl]

theorem evOp_congr {P : Program} {R : Facts} {cf : CallF} {op : Op} {tm tm' : Fr} {s : AS} (h : ∀ x ∈ op.operands.toList, evO tm x = evO tm' x) : evOp P R cf op tm s = evOp P R cf op tm' s := by
  cases op <;> simp only [Op.operands] at h <;> unfold evOp <;> (try simp only [])
  all_goals first | rfl | skip
  case move x => unfold aMove; rw [h x (by simp)]
  case assign x => unfold aMove; rw [h x (by simp)]
  case pick c a b => unfold aPick; rw [h c (by simp), h a (by simp), h b (by simp)]
  case box t x => unfold aBox; rw [h x (by simp)]
  case build t ps => unfold aBuild; rw [evParts_congr fun x hx => h x.2 (List.mem_map.2 ⟨x, hx, rfl⟩)]
  case buildSlice t n ps => unfold aBuildSlice; rw [evParts_congr fun x hx => h x.2 (List.mem_map.2 ⟨x, hx, rfl⟩)]
  case load t x => unfold aLoad; rw [h x (by simp)]
  case store t x y => unfold aStore; rw [h x (by simp), h y (by simp)]
  case nilCheck x => unfold aNilCheck; rw [h x (by simp)]
  case binOp op t x y yt => unfold aBinOp; rw [h x (by simp), h y (by simp)]
  case unOp op t x => unfold aUnOp; rw [h x (by simp)]
  case convert a b x => unfold aConvert; rw [h x (by simp)]
  case makeInterface t x => unfold aMakeInterface; rw [h x (by simp)]
  case makeFunc fn a b => unfold aMakeFunc; rw [evOs_congr fun x hx => h x (by simp at hx ⊢; exact .inl hx), evOs_congr fun x hx => h x (by simp at hx ⊢; exact .inr hx)]
  case makeMap t r => cases r <;> rfl
  case makeSlice t x y => unfold aMakeSlice; rw [h x (by simp), h y (by simp)]
  case slice t x l hi m =>
    unfold aSlice
    rw [h x (by simp), evOpt_congr (o := l) fun y hy => h y (by simp [hy]), evOpt_congr (o := hi) fun y hy => h y (by simp [hy]), evOpt_congr (o := m) fun y hy => h y (by simp [hy])]
  case fieldAddr t x i => unfold aFieldAddr; rw [h x (by simp)]
  case field t x i => unfold aField; rw [h x (by simp)]
  case indexAddr t x y => unfold aIndexAddr; rw [h x (by simp), h y (by simp)]
  case index t x y => unfold aIndex; rw [h x (by simp), h y (by simp)]
  case lookup t x y ok => unfold aLookup; rw [h x (by simp), h y (by simp)]
  case mapUpdate t x y z => unfold aMapUpdate; rw [h x (by simp), h y (by simp), h z (by simp)]
  case insert t x y z => unfold aInsert; rw [h x (by simp), h y (by simp), h z (by simp)]
  case range t x => unfold aRange; rw [h x (by simp)]
  case next x b => unfold aNext; rw [h x (by simp)]
  case entry x => unfold aEntry; rw [h x (by simp)]
  case extract x i => unfold aExtract; rw [h x (by simp)]
  case call c =>
    unfold aCall
    rw [evOs_congr fun x hx => h x (by simp [Call.operands] at hx ⊢; exact .inr hx)]
    cases hc : c.callee with
    | value f => simp only []; rw [h f (by simp [Call.operands, hc])]
    | _ => rfl
  all_goals (try rfl)

/-- Is an operation run? none: it can't be told. -/
def evWanted (ops : Array Oper) (tm : Fr) (o : Oper) : Option Bool :=
  match o.guard with
  | none => some true
  | some (j, want) =>
    match (ops[j]?).bind (·.dst) with
    | some d =>
      match fget tm d with
      | some (.bool b) => some (b == want)
      | some (.tup _) => some false
      | _ => none
    | none => none

def putA (N : Nat) (dst : Option Nat) (v : AV) (tm : Fr) : Fr :=
  match dst with
  | some d => fset N tm d v
  | none => tm

def evOpers (P : Program) (R : Facts) (cf : CallF) (ops : Array Oper) (N : Nat) (l : List Oper) : Fr → AS → Option (Fr × AS) :=
  @List.rec Oper (fun _ => Fr → AS → Option (Fr × AS)) (fun tm s => some (tm, s)) (fun o _ ih tm s =>
    match evWanted ops tm o with
    | some true =>
      match evOp P R cf o.op tm s with
      | some (v, s') => ih (putA N o.dst v tm) s'
      | none => none
    | some false => ih (putA N o.dst (.tup []) tm) s
    | none => none) l

theorem evOpers_nil {P : Program} {R : Facts} {cf : CallF} {ops : Array Oper} {N : Nat} (tm : Fr) (s : AS) : evOpers P R cf ops N [] tm s = some (tm, s) := rfl
theorem evOpers_cons {P : Program} {R : Facts} {cf : CallF} {ops : Array Oper} {N : Nat} (o : Oper) (rest : List Oper) (tm : Fr) (s : AS) : evOpers P R cf ops N (o :: rest) tm s =
    match evWanted ops tm o with
    | some true =>
      match evOp P R cf o.op tm s with
      | some (v, s') => evOpers P R cf ops N rest (putA N o.dst v tm) s'
      | none => none
    | some false => evOpers P R cf ops N rest (putA N o.dst (.tup []) tm) s
    | none => none := rfl

section
variable {F : Fix S} {A : Nat → Prop} {w0 : World} {σ : Sig} {w : World} {s : AS} {P : Program} {R : Facts} {cf : CallF} {N : Nat} {tm : Fr} {a : Act}

theorem wanted_ok (htm : FR F σ N tm a.tmps) {ops : Array Oper} {o : Oper} {b : Bool} (h : evWanted ops tm o = some b) : Region.wanted o (yielded ops a.tmps) = b := by
  unfold evWanted at h
  split at h
  · rename_i hg
    simp only [Option.some.injEq] at h
    subst h
    simp [Region.wanted, hg]
  · rename_i j want hg
    split at h
    · rename_i d hd
      have ht := htm.at_ d
      have hgd : ∀ v, a.tmps.getD d undef = v → v ≠ undef → a.tmps[d]? = some v := by
        intro v hv hne
        simp only [Array.getD_eq_getD_getElem?] at hv
        cases hq : a.tmps[d]? with
        | none => rw [hq] at hv; exact absurd hv.symm hne
        | some x => rw [hq] at hv; simp only [Option.getD_some] at hv; rw [hv]
      split at h
      · rename_i b' hb
        simp only [Option.some.injEq] at h
        subst h
        have ht := ht _ hb
        simp only [VR] at ht
        have hy' := hgd _ ht (by intro e; cases e)
        simp only [Region.wanted, hg, yielded, hd, Option.bind_some, hy']
        cases b' <;> cases want <;> rfl
      · rename_i l hb
        simp only [Option.some.injEq] at h
        subst h
        have ht := ht _ hb
        simp only [VR] at ht
        obtain ⟨l', _, he⟩ := ht
        have hy : a.tmps[d]? = none ∨ ∃ l', a.tmps[d]? = some (.tuple l') := by
          simp only [Array.getD_eq_getD_getElem?] at he
          cases hq : a.tmps[d]? with
          | none => exact .inl rfl
          | some x => rw [hq] at he; simp only [Option.getD_some] at he; exact .inr ⟨_, by rw [he]⟩
        rcases hy with hy | ⟨l'', hy⟩
        · simp only [Region.wanted, hg, yielded, hd, Option.bind_some, hy]
          cases want <;> rfl
        · simp only [Region.wanted, hg, yielded, hd, Option.bind_some, hy]
          cases want <;> rfl
      · cases h
    · cases h

theorem put_ok (htm : FR F σ N tm a.tmps) {v : AV} {rv : Value} (hv : VR F σ v rv) (dst : Option Nat) : FR F σ N (putA N dst v tm) (a.put dst rv).tmps := by
  cases dst with
  | none => exact htm
  | some d => exact htm.set d hv

theorem put_defers (dst : Option Nat) (rv : Value) : (a.put dst rv).defers = a.defers := by cases dst <;> rfl

theorem evOpers_ok (hcf : CallOK F A w0 P cf) (hR : FOK F R) {ops : Array Oper} {Q : Exit → Act → World → Prop} : ∀ (l : List Oper) (tm : Fr) (s : AS) (σ : Sig) (w : World) (a : Act) {tm' : Fr} {s' : AS},
    evOpers P R cf ops N l tm s = some (tm', s') → Rep F A w0 σ w s → FR F σ N tm a.tmps →
    (∀ σ' w' a', σ.le σ' → Rep F A w0 σ' w' s' → FR F σ' N tm' a'.tmps → a'.defers = a.defers → Q .normal a' w') → wpList P ops Q l a w
  | [], tm, s, σ, w, a, tm', s', h, hrep, htm, hQ => by
    rw [evOpers_nil] at h
    simp only [Option.some.injEq, Prod.mk.injEq] at h
    obtain ⟨rfl, rfl⟩ := h
    exact hQ σ w a (Sig.le_refl _) hrep htm rfl
  | o :: rest, tm, s, σ, w, a, tm', s', h, hrep, htm, hQ => by
    rw [evOpers_cons] at h
    split at h
    · rename_i hw
      split at h
      · rename_i v s1 hv
        unfold wpList
        rw [if_pos (wanted_ok htm hw)]
        left
        refine evOp_ok hcf hR hrep htm hv fun σ' w' rv hle hvr hrep' => ?_
        exact evOpers_ok hcf hR rest _ s1 σ' w' _ h hrep' (put_ok (htm.mono hle) hvr o.dst) fun σ'' w'' a'' h1 h2 h3 h4 =>
          hQ σ'' w'' a'' (Sig.le_trans hle h1) h2 h3 (h4.trans (put_defers _ _))
      · cases h
    · rename_i hw
      unfold wpList
      rw [if_neg (by rw [wanted_ok htm hw]; simp)]
      exact evOpers_ok hcf hR rest _ s σ w _ h hrep (put_ok htm VR.undef o.dst) fun σ'' w'' a'' h1 h2 h3 h4 =>
          hQ σ'' w'' a'' h1 h2 h3 (h4.trans (put_defers _ _))
    · cases h
end
end
end Go.Sy
