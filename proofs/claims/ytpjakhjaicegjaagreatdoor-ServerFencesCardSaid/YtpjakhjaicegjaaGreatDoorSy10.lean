/- One operation: what the evaluator gives is what the model's operation gives. Conditions: what is called is known to be as told; the named integers lie in the ranges that were told. -/
import Derived.Test.YtpjakhjaicegjaaGreatDoorSyC
namespace Go.Sy
open Go.RowKit
variable {S : Sg}
noncomputable section

def evO (tm : Fr) : Operand → Option AV
  | .tmp t => fget tm t
  | .const v => ofV v
  | .global g => some (.gptr g 0)
  | .func f => some (.func (.func f) [] [])

def evOs (tm : Fr) : List Operand → Option (List AV)
  | [] => some []
  | x :: l => match evO tm x, evOs tm l with
    | some a, some as => some (a :: as)
    | _, _ => none

def evParts (tm : Fr) : List (Nat × Operand) → Option (List (Nat × AV))
  | [] => some []
  | (i, x) :: l => match evO tm x, evParts tm l with
    | some a, some as => some ((i, a) :: as)
    | _, _ => none

def evOpt (tm : Fr) : Option Operand → Option (Option AV)
  | none => some none
  | some x => match evO tm x with
    | some a => some (some a)
    | none => none

abbrev CallF := FuncId → List AV → AS → Option (AV × AS)

def enterable (P : Program) (f : FuncId) : Bool :=
  match P.funcs[f]? with
  | some fn => !(fn.name == "runtime.NumGoroutine") && fn.body.isSome
  | none => false

def ret1 (s : AS) : Option AV → Option (AV × AS)
  | some v => some (v, s)
  | none => none
def ret0 : Option AS → Option (AV × AS)
  | some s => some (.tup [], s)
  | none => none

/-- The greater, the lesser of two integers, where it can be told. -/
def evMax (R : Facts) : AV → AV → Option AV
  | .int k a, .int _ b => match decB R (.lt a b) with
    | some true => some (.int k b)
    | some false => some (.int k a)
    | none => match decB R (.le a b) with
      | some true => some (.int k b)
      | _ => none
  | _, _ => none
def evMin (R : Facts) : AV → AV → Option AV
  | .int k a, .int _ b => match decB R (.lt b a) with
    | some true => some (.int k b)
    | some false => some (.int k a)
    | none => match decB R (.le b a) with
      | some true => some (.int k b)
      | _ => none
  | _, _ => none

def evBuiltin (P : Program) (R : Facts) (s : AS) (b : Builtin) (ts : List TypeId) (as : List AV) : Option (AV × AS) :=
  match b, ts, as with
  | .append, [t1, t2], [x, y] => evAppend P R s t1 t2 x y
  | .len, [t], [x] => ret1 s (evLen P R s t x)
  | .copy, t :: _, [x, y] => evCopy P R s t x y
  | .delete, [t, _], [m, k] => ret0 (evDelete P R s t m k)
  | .max, _, [x, y] => ret1 s (evMax R x y)
  | .min, _, [x, y] => ret1 s (evMin R x y)
  | _, _, _ => none

def evCallV (P : Program) (cf : CallF) (s : AS) (f : AV) (as : List AV) : Option (AV × AS) :=
  match f with
  | .func (.func id) first caps => if enterable P id then cf id (first ++ as ++ caps) s else none
  | _ => none

def aMove (tm : Fr) (s : AS) (x : Operand) : Option (AV × AS) := ret1 s (evO tm x)

def aPick  (tm : Fr) (s : AS) (c : Operand) (a : Operand) (b : Operand) : Option (AV × AS) :=
  match evO tm c with
    | some (.bool true) => ret1 s (evO tm a)
    | some (.bool false) => ret1 s (evO tm b)
    | _ => none

def aAlloc (P : Program) (s : AS) (t : TypeId) : Option (AV × AS) :=
  match zeroT P t with
    | some z => evNewVar s t z
    | none => none

def aBox  (tm : Fr) (s : AS) (t : TypeId) (x : Operand) : Option (AV × AS) :=
  match evO tm x with
    | some a => evNewVar s t a
    | none => none

def aBuild (P : Program) (tm : Fr) (s : AS) (t : TypeId) (parts : Array (Nat × Operand)) : Option (AV × AS) :=
  match evParts tm parts.toList with
    | some ps => ret1 s (evBuild P t ps)
    | none => none

def aBuildSlice (P : Program) (tm : Fr) (s : AS) (t : TypeId) (len : Nat) (parts : Array (Nat × Operand)) : Option (AV × AS) :=
  match evParts tm parts.toList with
    | some ps => evBuildSlice P s t len ps
    | none => none

def aLoad (P : Program) (R : Facts) (tm : Fr) (s : AS) (t : TypeId) (a : Operand) : Option (AV × AS) :=
  match evO tm a with
    | some a => ret1 s (evLoad P R s t a)
    | none => none

def aStore (P : Program) (R : Facts) (tm : Fr) (s : AS) (t : TypeId) (a : Operand) (x : Operand) : Option (AV × AS) :=
  match evO tm a, evO tm x with
    | some a, some x => ret0 (evStore P R s t a x)
    | _, _ => none

def aNilCheck  (tm : Fr) (s : AS) (x : Operand) : Option (AV × AS) :=
  match evO tm x with
    | some (.ptr id off) => some (.ptr id off, s)
    | some (.gptr g off) => some (.gptr g off, s)
    | some (.dp id i ro) => some (.dp id i ro, s)
    | _ => none

def aBinOp (P : Program) (R : Facts) (tm : Fr) (s : AS) (op : BinOp) (t : TypeId) (x : Operand) (y : Operand) : Option (AV × AS) :=
  match evO tm x, evO tm y with
    | some a, some b => ret1 s (evBin P R (isConst x || isConst y) op t a b)
    | _, _ => none

def aUnOp (R : Facts) (tm : Fr) (s : AS) (op : UnOp) (x : Operand) : Option (AV × AS) :=
  match evO tm x with
    | some a => ret1 s (evUn R op a)
    | none => none

def aConvert (P : Program) (R : Facts) (tm : Fr) (s : AS) (src : TypeId) (dst : TypeId) (x : Operand) : Option (AV × AS) :=
  match evO tm x with
    | some a => evConvert P R s src dst a
    | none => none

def aMakeInterface (P : Program) (tm : Fr) (s : AS) (t : TypeId) (x : Operand) : Option (AV × AS) :=
  match evO tm x with
    | some a => if P.concrete t then some (.iface t a, s) else none
    | none => none

def aMakeFunc  (tm : Fr) (s : AS) (fn : Fn) (first : Array Operand) (caps : Array Operand) : Option (AV × AS) :=
  match evOs tm first.toList, evOs tm caps.toList with
    | some a, some b => some (.func fn a b, s)
    | _, _ => none

def aMakeSlice (P : Program) (R : Facts) (tm : Fr) (s : AS) (t : TypeId) (l : Operand) (c : Operand) : Option (AV × AS) :=
  match evO tm l, evO tm c with
    | some a, some b => evMakeSlice P R s t a b
    | _, _ => none

def aSlice (P : Program) (R : Facts) (tm : Fr) (s : AS) (t : TypeId) (x : Operand) (lo : Option Operand) (hi : Option Operand) (mx : Option Operand) : Option (AV × AS) :=
  match evO tm x, evOpt tm lo, evOpt tm hi, evOpt tm mx with
    | some a, some l, some h, some m => ret1 s (evSlice P R s t a l h m)
    | _, _, _, _ => none

def aFieldAddr (P : Program) (tm : Fr) (s : AS) (t : TypeId) (x : Operand) (i : Nat) : Option (AV × AS) :=
  match evO tm x with
    | some a => ret1 s (evFieldAddr P t a i)
    | none => none

def aField (P : Program) (tm : Fr) (s : AS) (t : TypeId) (x : Operand) (i : Nat) : Option (AV × AS) :=
  match evO tm x with
    | some a => ret1 s (evField P t a i)
    | none => none

def aIndexAddr (P : Program) (R : Facts) (tm : Fr) (s : AS) (t : TypeId) (x : Operand) (i : Operand) : Option (AV × AS) :=
  match evO tm x, evO tm i with
    | some a, some b => ret1 s (evIndexAddr P R t a b)
    | _, _ => none

def aIndex (P : Program) (R : Facts) (tm : Fr) (s : AS) (t : TypeId) (x : Operand) (i : Operand) : Option (AV × AS) :=
  match evO tm x, evO tm i with
    | some a, some b => ret1 s (evIndex P R t a b)
    | _, _ => none

def aLookup (P : Program) (R : Facts) (tm : Fr) (s : AS) (t : TypeId) (x : Operand) (i : Operand) (ok : Bool) : Option (AV × AS) :=
  match evO tm x, evO tm i with
    | some a, some b => ret1 s (evLookup P R s t a b ok)
    | _, _ => none

def aMapUpdate (P : Program) (R : Facts) (tm : Fr) (s : AS) (t : TypeId) (m : Operand) (k : Operand) (x : Operand) : Option (AV × AS) :=
  match evO tm m, evO tm k, evO tm x with
    | some m, some k, some x => ret0 (evMapUpdate P R s t m k x)
    | _, _, _ => none

def aInsert (P : Program) (R : Facts) (tm : Fr) (s : AS) (t : TypeId) (m : Operand) (k : Operand) (x : Operand) : Option (AV × AS) :=
  match evO tm m, evO tm k, evO tm x with
    | some m, some k, some x => ret0 (evMapUpdate P R s t m k x)
    | _, _, _ => none

def aRange (P : Program) (tm : Fr) (s : AS) (t : TypeId) (x : Operand) : Option (AV × AS) :=
  match evO tm x with
    | some a => evRange P s t a
    | none => none

def aNext  (tm : Fr) (s : AS) (it : Operand) (isS : Bool) : Option (AV × AS) :=
  match evO tm it with
    | some a => evNext s a isS
    | none => none

def aEntry  (tm : Fr) (s : AS) (it : Operand) : Option (AV × AS) :=
  match evO tm it with
    | some a => ret1 s (evEntry s a)
    | none => none

def aExtract  (tm : Fr) (s : AS) (t : Operand) (i : Nat) : Option (AV × AS) :=
  match evO tm t with
    | some (.tup vs) => ret1 s vs[i]?
    | _ => none

def aCall (P : Program) (R : Facts) (cf : CallF) (tm : Fr) (s : AS) (c : Call) : Option (AV × AS) :=

    match evOs tm c.args.toList with
    | some as =>
      match c.callee with
      | .value f => match evO tm f with
        | some a => evCallV P cf s a as
        | none => none
      | .builtin b => evBuiltin P R s b c.argTypes.toList as
      | _ => none
    | none => none

def evOp (P : Program) (R : Facts) (cf : CallF) (op : Op) (tm : Fr) (s : AS) : Option (AV × AS) :=
  match op with
  | .move x | .assign x => aMove tm s x
  | .pick c a b => aPick tm s c a b
  | .alloc t => aAlloc P s t
  | .box t x => aBox tm s t x
  | .build t parts => aBuild P tm s t parts
  | .buildSlice t len parts => aBuildSlice P tm s t len parts
  | .load t a => aLoad P R tm s t a
  | .store t a x => aStore P R tm s t a x
  | .nilCheck x => aNilCheck tm s x
  | .binOp op t x y _ => aBinOp P R tm s op t x y
  | .unOp op _ x => aUnOp R tm s op x
  | .convert src dst x => aConvert P R tm s src dst x
  | .makeInterface t x => aMakeInterface P tm s t x
  | .makeFunc fn first caps => aMakeFunc tm s fn first caps
  | .makeMap _ none => evMakeMap s
  | .makeSlice t l c => aMakeSlice P R tm s t l c
  | .slice t x lo hi mx => aSlice P R tm s t x lo hi mx
  | .fieldAddr t x i => aFieldAddr P tm s t x i
  | .field t x i => aField P tm s t x i
  | .indexAddr t x i => aIndexAddr P R tm s t x i
  | .index t x i => aIndex P R tm s t x i
  | .lookup t x i ok => aLookup P R tm s t x i ok
  | .mapUpdate t m k x => aMapUpdate P R tm s t m k x
  | .insert t m k x => aInsert P R tm s t m k x
  | .range t x => aRange P tm s t x
  | .next it isS => aNext tm s it isS
  | .entry it => aEntry tm s it
  | .extract t i => aExtract tm s t i
  | .call c => aCall P R cf tm s c
  | _ => none

/-- A frame and the slots of the model's. -/
structure FR (F : Fix S) (σ : Sig) (N : Nat) (tm : Fr) (tmps : Array Value) : Prop where
  size : tmps.size = N
  small : N < 4095
  at_ : ∀ t v, fget tm t = some v → VR F σ v (tmps.getD t undef)

theorem FR.mono {F : Fix S} {σ τ : Sig} {N : Nat} {tm : Fr} {tmps : Array Value} (h : FR F σ N tm tmps) (hl : σ.le τ) : FR F τ N tm tmps :=
  ⟨h.size, h.small, fun t v hv => (h.at_ t v hv).mono hl⟩

theorem FR.set {F : Fix S} {σ : Sig} {N : Nat} {tm : Fr} {tmps : Array Value} (h : FR F σ N tm tmps) (d : Nat) {v : AV} {rv : Value} (hv : VR F σ v rv) : FR F σ N (fset N tm d v) (tmps.setIfInBounds d rv) := by
  refine ⟨by simp [h.size], h.small, fun t u hu => ?_⟩
  rw [fget_fset h.small] at hu
  simp only [Array.getD_eq_getD_getElem?, Array.getElem?_setIfInBounds]
  by_cases hd : t = d ∧ d < N
  · obtain ⟨rfl, hd⟩ := hd
    simp only [hd, and_self, if_true, Option.some.injEq] at hu
    subst hu
    simp only [hd, if_true, h.size, Option.getD_some]
    exact hv
  · rw [if_neg hd] at hu
    have ht := h.at_ t u hu
    simp only [Array.getD_eq_getD_getElem?] at ht
    by_cases htd : d = t
    · subst htd
      have : ¬ d < tmps.size := by rw [h.size]; intro h2; exact hd ⟨rfl, h2⟩
      simp only [if_true, this, if_false]
      have hn : tmps[d]? = none := by simp; omega
      rw [hn] at ht
      exact ht
    · simp only [htd, if_false]
      exact ht

section
variable (F : Fix S) (A : Nat → Prop) (w0 : World) (P : Program)
/-- What a table of calls says is so. -/
def CallOK (cf : CallF) : Prop := ∀ f as s v s', cf f as s = some (v, s') → ∀ σ w vs, VRs F σ as vs → Rep F A w0 σ w s →
  Calls P f vs.toArray w fun e w' => ∃ σ' rv, e = .returned rv ∧ VR F σ' v rv ∧ σ.le σ' ∧ Rep F A w0 σ' w' s'
end

section
variable {F : Fix S} {A : Nat → Prop} {w0 : World} {σ : Sig} {w : World} {s : AS} {P : Program} {R : Facts} {cf : CallF} {N : Nat} {tm : Fr} {a : Act}

theorem evO_ok (htm : FR F σ N tm a.tmps) {x : Operand} {v : AV} (h : evO tm x = some v) : VR F σ v (a.eval x) := by
  cases x with
  | tmp t => exact htm.at_ t v h
  | const c => exact ofV_ok h
  | global g => simp only [evO, Option.some.injEq] at h; subst h; simp [VR, Act.eval]
  | func f => simp only [evO, Option.some.injEq] at h; subst h; simp only [VR, Act.eval]; exact ⟨[], [], by simp [VRs], by simp [VRs], rfl⟩

theorem evOs_ok (htm : FR F σ N tm a.tmps) : ∀ {l : List Operand} {vs : List AV}, evOs tm l = some vs → VRs F σ vs (l.map a.eval)
  | [], vs, h => by simp only [evOs, Option.some.injEq] at h; subst h; simp [VRs]
  | x :: l, vs, h => by
    simp only [evOs] at h
    split at h
    · rename_i b bs hb hbs
      simp only [Option.some.injEq] at h
      subst h
      simp only [List.map_cons, VRs]
      exact ⟨_, _, evO_ok htm hb, evOs_ok htm hbs, rfl⟩
    · cases h

theorem evParts_ok (htm : FR F σ N tm a.tmps) : ∀ {l : List (Nat × Operand)} {vs : List (Nat × AV)}, evParts tm l = some vs → PRs F σ vs (l.map fun p => (p.1, a.eval p.2))
  | [], vs, h => by simp only [evParts, Option.some.injEq] at h; subst h; simp [PRs]
  | (i, x) :: l, vs, h => by
    simp only [evParts] at h
    split at h
    · rename_i b bs hb hbs
      simp only [Option.some.injEq] at h
      subst h
      simp only [List.map_cons, PRs]
      exact ⟨_, _, evO_ok htm hb, evParts_ok htm hbs, rfl⟩
    · cases h

theorem evOpt_ok (htm : FR F σ N tm a.tmps) {o : Option Operand} {v : Option AV} (h : evOpt tm o = some v) : OVR F σ v (o.map a.eval) := by
  cases o with
  | none => simp only [evOpt, Option.some.injEq] at h; subst h; rfl
  | some x =>
    simp only [evOpt] at h
    split at h
    · rename_i b hb
      simp only [Option.some.injEq] at h
      subst h
      exact evO_ok htm hb
    · cases h

theorem ret1_inv {s s' : AS} {o : Option AV} {v : AV} (h : ret1 s o = some (v, s')) : o = some v ∧ s' = s := by
  cases o with
  | none => cases h
  | some x => simp only [ret1, Option.some.injEq, Prod.mk.injEq] at h; exact ⟨by rw [h.1], h.2.symm⟩
theorem ret0_inv {s' : AS} {o : Option AS} {v : AV} (h : ret0 o = some (v, s')) : o = some s' ∧ v = .tup [] := by
  cases o with
  | none => cases h
  | some x => simp only [ret0, Option.some.injEq, Prod.mk.injEq] at h; exact ⟨by rw [h.2], h.1.symm⟩

theorem VR.undef : VR F σ (.tup []) undef := by simp [VR, VRs, Go.undef]

variable {o : Oper} {K : Act → World → Prop} {Q : Exit → Act → World → Prop}

/-- An operation that gives a value. -/
theorem wp_value {M : Sem Value} (ho : execOp a.eval o = (do pure (.value (← M)))) {v : AV} {s' : AS} (hS : ∃ σ' w' rv, M.run P w = .ok rv w' ∧ VR F σ' v rv ∧ σ.le σ' ∧ Rep F A w0 σ' w' s')
    (hK : ∀ σ' w' rv, σ.le σ' → VR F σ' v rv → Rep F A w0 σ' w' s' → K (a.put o.dst rv) w') : o.wp P a w K Q := by
  obtain ⟨σ', w', rv, h1, h2, h3, h4⟩ := hS
  unfold Oper.wp
  rw [ho]
  simp only [Sem.run_bind, h1, Result.andThen_ok, Sem.run_pure, Oper.upon]
  exact hK σ' w' rv h3 h2 h4

theorem wp_unit {M : Sem Unit} (ho : execOp a.eval o = (do M; pure .skip)) {s' : AS} (hS : ∃ w', M.run P w = .ok () w' ∧ Rep F A w0 σ w' s')
    (hK : ∀ σ' w' rv, σ.le σ' → VR F σ' (.tup []) rv → Rep F A w0 σ' w' s' → K (a.put o.dst rv) w') : o.wp P a w K Q := by
  obtain ⟨w', h1, h4⟩ := hS
  unfold Oper.wp
  rw [ho]
  simp only [Sem.run_bind, h1, Result.andThen_ok, Sem.run_pure, Oper.upon]
  exact hK σ w' _ (Sig.le_refl _) VR.undef h4

/-- A pure value out of what stays. -/
theorem same {M : Sem Value} {v : AV} (h : Rep F A w0 σ w s) (hS : ∃ rv, M.run P w = .ok rv w ∧ VR F σ v rv) : ∃ σ' w' rv, M.run P w = .ok rv w' ∧ VR F σ' v rv ∧ σ.le σ' ∧ Rep F A w0 σ' w' s := by
  obtain ⟨rv, h1, h2⟩ := hS
  exact ⟨σ, w, rv, h1, h2, Sig.le_refl _, h⟩

theorem newVarPtr {M : Sem Addr} {v : AV} {s' : AS} (hS : ∃ σ' w' x, M.run P w = .ok x w' ∧ VR F σ' v (.pointer (some x)) ∧ σ.le σ' ∧ Rep F A w0 σ' w' s') :
    ∃ σ' w' rv, (do pure (.pointer (some (← M))) : Sem Value).run P w = .ok rv w' ∧ VR F σ' v rv ∧ σ.le σ' ∧ Rep F A w0 σ' w' s' := by
  obtain ⟨σ', w', x, h1, h2, h3, h4⟩ := hS
  exact ⟨σ', w', _, by simp only [Sem.run_bind, h1, Result.andThen_ok, Sem.run_pure], h2, h3, h4⟩

theorem max_ok {F : Fix S} {R : Facts} {σ : Sig} (hR : FOK F R) {x y r : AV} (he : evMax R x y = some r) {vx vy : Value} (hx : VR F σ x vx) (hy : VR F σ y vy) (P : Program) (w : World) (ts : Array TypeId) (ty : TypeId) :
    ∃ rv, (Builtin.max_ ts ty #[vx, vy]).run P w = .ok rv w ∧ VR F σ r rv := by
  unfold evMax at he
  split at he
  · rename_i k a k' b
    simp only [VR] at hx hy
    subst hx hy
    have key : ∀ q, decB R (.lt a b) = some q → decide ((b.val F).i > (a.val F).i) = q := fun q hq => by
      have := decB_ok hR _ hq
      simpa only [Tm.val, Dat.b_bool] using this
    split at he
    · rename_i hq
      simp only [Option.some.injEq] at he
      subst he
      have := key _ hq
      simp only [decide_eq_true_eq] at this
      exact ⟨_, by simp only [Builtin.max_, List.foldlM, Builtin.max2, if_pos this]; rfl, by simp only [VR]⟩
    · rename_i hq
      simp only [Option.some.injEq] at he
      subst he
      have := key _ hq
      simp only [decide_eq_false_iff_not] at this
      exact ⟨_, by simp only [Builtin.max_, List.foldlM, Builtin.max2, if_neg this]; rfl, by simp only [VR]⟩
    · split at he
      · rename_i hq
        simp only [Option.some.injEq] at he
        subst he
        have := decB_ok hR _ hq
        simp only [Tm.val, Dat.b_bool, decide_eq_true_eq] at this
        by_cases hc : (b.val F).i > (a.val F).i
        · exact ⟨_, by simp only [Builtin.max_, List.foldlM, Builtin.max2, if_pos hc]; rfl, by simp only [VR]⟩
        · refine ⟨_, by simp only [Builtin.max_, List.foldlM, Builtin.max2, if_neg hc]; rfl, ?_⟩
          simp only [VR]
          rw [show (a.val F).i = (b.val F).i by omega]
      · cases he
  · cases he
theorem min_ok {F : Fix S} {R : Facts} {σ : Sig} (hR : FOK F R) {x y r : AV} (he : evMin R x y = some r) {vx vy : Value} (hx : VR F σ x vx) (hy : VR F σ y vy) (P : Program) (w : World) (ts : Array TypeId) (ty : TypeId) :
    ∃ rv, (Builtin.min_ ts ty #[vx, vy]).run P w = .ok rv w ∧ VR F σ r rv := by
  unfold evMin at he
  split at he
  · rename_i k a k' b
    simp only [VR] at hx hy
    subst hx hy
    have key : ∀ q, decB R (.lt b a) = some q → decide ((b.val F).i < (a.val F).i) = q := fun q hq => by
      have := decB_ok hR _ hq
      simpa only [Tm.val, Dat.b_bool] using this
    split at he
    · rename_i hq
      simp only [Option.some.injEq] at he
      subst he
      have := key _ hq
      simp only [decide_eq_true_eq] at this
      exact ⟨_, by simp only [Builtin.min_, List.foldlM, Builtin.min2, if_pos this]; rfl, by simp only [VR]⟩
    · rename_i hq
      simp only [Option.some.injEq] at he
      subst he
      have := key _ hq
      simp only [decide_eq_false_iff_not] at this
      exact ⟨_, by simp only [Builtin.min_, List.foldlM, Builtin.min2, if_neg this]; rfl, by simp only [VR]⟩
    · split at he
      · rename_i hq
        simp only [Option.some.injEq] at he
        subst he
        have := decB_ok hR _ hq
        simp only [Tm.val, Dat.b_bool, decide_eq_true_eq] at this
        by_cases hc : (b.val F).i < (a.val F).i
        · exact ⟨_, by simp only [Builtin.min_, List.foldlM, Builtin.min2, if_pos hc]; rfl, by simp only [VR]⟩
        · refine ⟨_, by simp only [Builtin.min_, List.foldlM, Builtin.min2, if_neg hc]; rfl, ?_⟩
          simp only [VR]
          rw [show (a.val F).i = (b.val F).i by omega]
      · cases he
  · cases he

theorem evOp_ok (hcf : CallOK F A w0 P cf) (hR : FOK F R) (hrep : Rep F A w0 σ w s) (htm : FR F σ N tm a.tmps) {v : AV} {s' : AS} (h : evOp P R cf o.op tm s = some (v, s'))
    (hK : ∀ σ' w' rv, σ.le σ' → VR F σ' v rv → Rep F A w0 σ' w' s' → K (a.put o.dst rv) w') : o.wp P a w K Q := by
  unfold evOp at h
  split at h
  case h_1 x hop =>
    unfold aMove at h
    obtain ⟨h1, rfl⟩ := ret1_inv h
    unfold Oper.wp
    simp only [execOp, hop, Sem.run_pure, Oper.upon]
    exact hK σ w _ (Sig.le_refl _) (evO_ok htm h1) hrep
  case h_2 x hop =>
    unfold aMove at h
    obtain ⟨h1, rfl⟩ := ret1_inv h
    unfold Oper.wp
    simp only [execOp, hop, Sem.run_pure, Oper.upon]
    exact hK σ w _ (Sig.le_refl _) (evO_ok htm h1) hrep
  case h_3 c x y hop =>
    unfold aPick at h
    split at h
    · rename_i hc
      obtain ⟨h1, rfl⟩ := ret1_inv h
      have hcv := evO_ok (F := F) (σ := σ) htm hc
      simp only [VR] at hcv
      unfold Oper.wp
      simp only [execOp, hop, hcv, asBool, Sem.run_bind, Sem.run_pure, Result.andThen_ok, if_true, Oper.upon]
      exact hK σ w _ (Sig.le_refl _) (evO_ok htm h1) hrep
    · rename_i hc
      obtain ⟨h1, rfl⟩ := ret1_inv h
      have hcv := evO_ok (F := F) (σ := σ) htm hc
      simp only [VR] at hcv
      unfold Oper.wp
      simp only [execOp, hop, hcv, asBool, Sem.run_bind, Sem.run_pure, Result.andThen_ok, Bool.false_eq_true, if_false, Oper.upon]
      exact hK σ w _ (Sig.le_refl _) (evO_ok htm h1) hrep
    · cases h
  case h_4 t hop =>
    unfold aAlloc at h
    split at h
    · rename_i z hz
      refine wp_value (M := Instr.alloc t true (.tuple #[])) (by simp only [execOp, hop]) ?_ hK
      obtain ⟨zv, hzr, hzv⟩ := run_zeroT (F := F) (σ := σ) hz w
      obtain ⟨σ', w', x, h1, h2, h3, h4⟩ := newVar_ok (P := P) hrep h hzv
      exact ⟨σ', w', _, by simp [Instr.alloc, hzr, h1], h2, h3, h4⟩
    · cases h
  case h_5 t x hop =>
    unfold aBox at h
    split at h
    · rename_i b hb
      refine wp_value (M := Instr.box t (a.eval x)) (by simp only [execOp, hop]) ?_ hK
      exact newVarPtr (newVar_ok (P := P) hrep h (evO_ok htm hb))
    · cases h
  case h_6 t parts hop =>
    unfold aBuild at h
    split at h
    · rename_i ps hps
      obtain ⟨h1, rfl⟩ := ret1_inv h
      refine wp_value (M := Instr.build t (parts.map fun (i, x) => (i, a.eval x))) (by simp only [execOp, hop]) (same hrep ?_) hK
      exact build_ok h1 (by simpa using evParts_ok htm hps) w
    · cases h
  case h_7 t len parts hop =>
    unfold aBuildSlice at h
    split at h
    · rename_i ps hps
      refine wp_value (M := Instr.buildSlice t len (parts.map fun (i, x) => (i, a.eval x))) (by simp only [execOp, hop]) ?_ hK
      exact buildSlice_ok hrep h (by simpa using evParts_ok htm hps)
    · cases h
  case h_8 t x hop =>
    unfold aLoad at h
    split at h
    · rename_i b hb
      obtain ⟨h1, rfl⟩ := ret1_inv h
      exact wp_value (M := Instr.loadAt t (a.eval x)) (by simp only [execOp, hop]) (same hrep (load_ok hR hrep h1 (evO_ok htm hb))) hK
    · cases h
  case h_9 t x y hop =>
    unfold aStore at h
    split at h
    · rename_i b c hb hc
      obtain ⟨h1, rfl⟩ := ret0_inv h
      exact wp_unit (M := Instr.storeAt t (a.eval x) (a.eval y)) (by simp only [execOp, hop]) (store_ok hR hrep h1 (evO_ok htm hb) (evO_ok htm hc)) hK
    · cases h
  case h_10 x hop =>
    unfold aNilCheck at h
    split at h
    · rename_i id off hb
      simp only [Option.some.injEq, Prod.mk.injEq] at h
      obtain ⟨rfl, rfl⟩ := h
      have hv := evO_ok (F := F) (σ := σ) htm hb
      have hv' := hv
      simp only [VR] at hv
      obtain ⟨b, κ, hb', he⟩ := hv
      unfold Oper.wp
      simp only [execOp, hop, he, Sem.run_pure, Oper.upon]
      rw [he] at hv'
      exact hK σ w _ (Sig.le_refl _) hv' hrep
    · rename_i g off hb
      simp only [Option.some.injEq, Prod.mk.injEq] at h
      obtain ⟨rfl, rfl⟩ := h
      have hv := evO_ok (F := F) (σ := σ) htm hb
      have hv' := hv
      simp only [VR] at hv
      unfold Oper.wp
      simp only [execOp, hop, hv, Sem.run_pure, Oper.upon]
      rw [hv] at hv'
      exact hK σ w _ (Sig.le_refl _) hv' hrep
    · rename_i id i ro hb
      simp only [Option.some.injEq, Prod.mk.injEq] at h
      obtain ⟨rfl, rfl⟩ := h
      have hv := evO_ok (F := F) (σ := σ) htm hb
      have hv' := hv
      simp only [VR] at hv
      obtain ⟨b, κ, hb', _, _, he⟩ := hv
      unfold Oper.wp
      simp only [execOp, hop, he, Sem.run_pure, Oper.upon]
      rw [he] at hv'
      exact hK σ w _ (Sig.le_refl _) hv' hrep
    · cases h
  case h_11 op t x y yt hop =>
    unfold aBinOp at h
    split at h
    · rename_i b c hb hc
      obtain ⟨h1, rfl⟩ := ret1_inv h
      exact wp_value (M := (do eqGuard op t x y (a.eval x) (a.eval y); binOp op t (a.eval x) (a.eval y))) (by simp only [execOp, hop]) (same hrep (bin_ok hR h1 (evO_ok htm hb) (evO_ok htm hc) w x y rfl)) hK
    · cases h
  case h_12 op t x hop =>
    unfold aUnOp at h
    split at h
    · rename_i b hb
      obtain ⟨h1, rfl⟩ := ret1_inv h
      exact wp_value (M := Op.unary op (a.eval x)) (by simp only [execOp, hop]) (same hrep (un_ok hR h1 (evO_ok htm hb) w)) hK
    · cases h
  case h_13 src dst x hop =>
    unfold aConvert at h
    split at h
    · rename_i b hb
      exact wp_value (M := convert src dst (a.eval x)) (by simp only [execOp, hop]) (convert_ok hR hrep h (evO_ok htm hb)) hK
    · cases h
  case h_14 t x hop =>
    unfold aMakeInterface at h
    split at h
    · rename_i b hb
      split at h
      · rename_i hc
        simp only [Option.some.injEq, Prod.mk.injEq] at h
        obtain ⟨rfl, rfl⟩ := h
        refine wp_value (M := Instr.makeInterface t (a.eval x)) (by simp only [execOp, hop]) (same hrep ⟨_, run_makeInterface w t _ hc, ?_⟩) hK
        simp only [VR]
        exact ⟨_, evO_ok htm hb, rfl⟩
      · cases h
    · cases h
  case h_15 fn first caps hop =>
    unfold aMakeFunc at h
    split at h
    · rename_i b c hb hc
      simp only [Option.some.injEq, Prod.mk.injEq] at h
      obtain ⟨rfl, rfl⟩ := h
      refine wp_value (M := Instr.makeFunc fn (first.map a.eval) (caps.map a.eval)) (by simp only [execOp, hop]) (same hrep ⟨_, rfl, ?_⟩) hK
      simp only [VR]
      exact ⟨_, _, evOs_ok htm hb, evOs_ok htm hc, by congr 1 <;> (apply Array.ext'; simp)⟩
    · cases h
  case h_16 t hop =>
    exact wp_value (M := Instr.makeMap t none) (by simp only [execOp, hop]; rfl) (makeMap_ok hrep h) hK
  case h_17 t l c hop =>
    unfold aMakeSlice at h
    split at h
    · rename_i x y hx hy
      exact wp_value (M := Instr.makeSlice t (a.eval l) (a.eval c)) (by simp only [execOp, hop]) (makeSlice_ok hR hrep h (evO_ok htm hx) (evO_ok htm hy)) hK
    · cases h
  case h_18 t x lo hi mx hop =>
    unfold aSlice at h
    split at h
    · rename_i b l hh m hb hl hhi hm
      obtain ⟨h1, rfl⟩ := ret1_inv h
      exact wp_value (M := Instr.sliceAt t (a.eval x) (lo.map a.eval) (hi.map a.eval) (mx.map a.eval)) (by simp only [execOp, hop]) (same hrep (slice_ok hR h1 (evO_ok htm hb) (evOpt_ok htm hl) (evOpt_ok htm hhi) (evOpt_ok htm hm) hrep)) hK
    · cases h
  case h_19 t x i hop =>
    unfold aFieldAddr at h
    split at h
    · rename_i b hb
      obtain ⟨h1, rfl⟩ := ret1_inv h
      exact wp_value (M := Instr.fieldAt t (a.eval x) i) (by simp only [execOp, hop]) (same hrep (fieldAddr_ok h1 (evO_ok htm hb) w)) hK
    · cases h
  case h_20 t x i hop =>
    unfold aField at h
    split at h
    · rename_i b hb
      obtain ⟨h1, rfl⟩ := ret1_inv h
      exact wp_value (M := Instr.field t (a.eval x) i) (by simp only [execOp, hop]) (same hrep (field_ok h1 (evO_ok htm hb) w)) hK
    · cases h
  case h_21 t x i hop =>
    unfold aIndexAddr at h
    split at h
    · rename_i b c hb hc
      obtain ⟨h1, rfl⟩ := ret1_inv h
      exact wp_value (M := Instr.indexAt t (a.eval x) (a.eval i)) (by simp only [execOp, hop]) (same hrep (indexAddr_ok hR h1 (evO_ok htm hb) (evO_ok htm hc) w)) hK
    · cases h
  case h_22 t x i hop =>
    unfold aIndex at h
    split at h
    · rename_i b c hb hc
      obtain ⟨h1, rfl⟩ := ret1_inv h
      exact wp_value (M := Instr.index t (a.eval x) (a.eval i)) (by simp only [execOp, hop]) (same hrep (index_ok hR h1 (evO_ok htm hb) (evO_ok htm hc) w)) hK
    · cases h
  case h_23 t x i ok hop =>
    unfold aLookup at h
    split at h
    · rename_i b c hb hc
      obtain ⟨h1, rfl⟩ := ret1_inv h
      exact wp_value (M := Instr.lookup t (a.eval x) (a.eval i) ok) (by simp only [execOp, hop]) (same hrep (lookup_ok hR hrep h1 (evO_ok htm hb) (evO_ok htm hc))) hK
    · cases h
  case h_24 t m k x hop =>
    unfold aMapUpdate at h
    split at h
    · rename_i b c d hb hc hd
      obtain ⟨h1, rfl⟩ := ret0_inv h
      exact wp_unit (M := Instr.mapUpdate t (a.eval m) (a.eval k) (a.eval x)) (by simp only [execOp, hop]) (mapUpdate_ok hR hrep h1 (evO_ok htm hb) (evO_ok htm hc) (evO_ok htm hd)) hK
    · cases h
  case h_25 t m k x hop =>
    unfold aInsert at h
    split at h
    · rename_i b c d hb hc hd
      obtain ⟨h1, rfl⟩ := ret0_inv h
      exact wp_unit (M := Instr.mapUpdate t (a.eval m) (a.eval k) (a.eval x)) (by simp only [execOp, hop]) (mapUpdate_ok hR hrep h1 (evO_ok htm hb) (evO_ok htm hc) (evO_ok htm hd)) hK
    · cases h
  case h_26 t x hop =>
    unfold aRange at h
    split at h
    · rename_i b hb
      exact wp_value (M := Instr.range t (a.eval x)) (by simp only [execOp, hop]) (range_ok hrep h (evO_ok htm hb)) hK
    · cases h
  case h_27 it isS hop =>
    unfold aNext at h
    split at h
    · rename_i b hb
      obtain ⟨w', rv, h1, h2, h3⟩ := next_ok (P := P) (t := o.type) hrep h (evO_ok htm hb)
      exact wp_value (M := Instr.next (a.eval it) isS o.type) (by simp only [execOp, hop]) ⟨σ, w', rv, h1, h2, Sig.le_refl _, h3⟩ hK
    · cases h
  case h_28 it hop =>
    unfold aEntry at h
    split at h
    · rename_i b hb
      obtain ⟨h1, rfl⟩ := ret1_inv h
      exact wp_value (M := Instr.entry (a.eval it)) (by simp only [execOp, hop]) (same hrep (entry_ok hrep h1 (evO_ok htm hb))) hK
    · cases h
  case h_29 t i hop =>
    unfold aExtract at h
    split at h
    · rename_i vs hb
      obtain ⟨h1, rfl⟩ := ret1_inv h
      have hv := evO_ok (F := F) (σ := σ) htm hb
      simp only [VR] at hv
      obtain ⟨l, hl, he⟩ := hv
      obtain ⟨y, hy, hr⟩ := hl.get _ _ h1
      refine wp_value (M := Instr.extract (a.eval t) i) (by simp only [execOp, hop]) (same hrep ⟨y, ?_, hr⟩) hK
      simp [Instr.extract, he, hy]
    · cases h
  case h_30 c hop =>
    unfold aCall at h
    split at h
    · rename_i as has
      have hargs := evOs_ok (F := F) (σ := σ) (a := a) htm has
      split at h
      · rename_i f hcal
        split at h
        · rename_i fa hfa
          have hf := evO_ok (F := F) (σ := σ) htm hfa
          unfold evCallV at h
          split at h
          · rename_i id first caps
            split at h
            · rename_i hen
              simp only [VR] at hf
              obtain ⟨l1, l2, hl1, hl2, he⟩ := hf
              have hcalls := hcf _ _ _ _ _ h σ w _ ((hl1.append hargs).append hl2) hrep
              unfold Oper.wp
              have hrun : (execOp a.eval o).run P w = .ok (.enter id ((l1 ++ c.args.toList.map a.eval ++ l2).toArray)) w := by
                unfold enterable at hen
                split at hen
                · rename_i fn hfn
                  simp only [Bool.and_eq_true, Bool.not_eq_true'] at hen
                  have hbn : fn.body.isNone = false := by
                    cases hb : fn.body <;> simp_all
                  simp only [execOp, hop, resolve, hcal, he, Deferred.ofValue, invoke, callFunc, Sem.run_bind, Sem.run_pure, Result.andThen_ok, run_program, hfn, hen.1, hbn, Bool.false_eq_true, if_false]
                  congr 2
                  apply Array.ext'
                  simp
                · cases hen
              rw [hrun]
              simp only [Oper.upon]
              refine Calls.mono hcalls fun e w' ⟨σ', rv, h1, h2, h3, h4⟩ => ?_
              subst h1
              exact hK σ' w' rv h3 h2 h4
            · cases h
          · cases h
        · cases h
      · rename_i b hcal
        unfold evBuiltin at h
        split at h
        · rename_i t1 t2 x y hts
          refine wp_value (M := Builtin.append_ c.argTypes o.type (c.args.map a.eval)) (by simp only [execOp, hop, resolve, hcal, invoke, builtin]; rfl) ?_ hK
          simp only [VRs] at hargs
          obtain ⟨vx, _, hx, ⟨vy, _, hy, rfl, rfl⟩, hl⟩ := hargs
          have e1 : c.args.map a.eval = #[vx, vy] := by apply Array.ext'; simpa using hl
          have e2 : c.argTypes = #[t1, t2] := by apply Array.ext'; simpa using hts
          rw [e1, e2]
          exact append_ok hR hrep h hx hy
        · rename_i t x hts
          obtain ⟨h1, rfl⟩ := ret1_inv h
          refine wp_value (M := Builtin.len_ c.argTypes o.type (c.args.map a.eval)) (by simp only [execOp, hop, resolve, hcal, invoke, builtin]; rfl) (same hrep ?_) hK
          simp only [VRs] at hargs
          obtain ⟨vx, _, hx, rfl, hl⟩ := hargs
          have e1 : c.args.map a.eval = #[vx] := by apply Array.ext'; simpa using hl
          have e2 : c.argTypes = #[t] := by apply Array.ext'; simpa using hts
          rw [e1, e2]
          exact len_ok hR hrep h1 hx
        · rename_i t trest x y hts
          refine wp_value (M := Builtin.copy_ c.argTypes o.type (c.args.map a.eval)) (by simp only [execOp, hop, resolve, hcal, invoke, builtin]; rfl) ?_ hK
          simp only [VRs] at hargs
          obtain ⟨vx, _, hx, ⟨vy, _, hy, rfl, rfl⟩, hl⟩ := hargs
          have e1 : c.args.map a.eval = #[vx, vy] := by apply Array.ext'; simpa using hl
          obtain ⟨w', rv, h1, h2, h3⟩ := copy_ok (P := P) (t2 := t) (ty := o.type) hR hrep h hx hy
          refine ⟨σ, w', rv, ?_, h2, Sig.le_refl _, h3⟩
          rw [e1, ← h1]
          have e2 : c.argTypes[0]? = some t := by
            have : c.argTypes.toList[0]? = some t := by rw [hts]; rfl
            simpa using this
          simp only [Builtin.copy_, e2]
          rfl
        · rename_i t t2 m k hts
          obtain ⟨h1, rfl⟩ := ret0_inv h
          refine wp_value (M := Builtin.delete_ c.argTypes o.type (c.args.map a.eval)) (by simp only [execOp, hop, resolve, hcal, invoke, builtin]; rfl) ?_ hK
          simp only [VRs] at hargs
          obtain ⟨vx, _, hx, ⟨vy, _, hy, rfl, rfl⟩, hl⟩ := hargs
          have e1 : c.args.map a.eval = #[vx, vy] := by apply Array.ext'; simpa using hl
          have e2 : c.argTypes = #[t, t2] := by apply Array.ext'; simpa using hts
          rw [e1, e2]
          obtain ⟨w', h2, h3⟩ := delete_ok (P := P) (t2 := t2) (ty := o.type) hR hrep h1 hx hy
          exact ⟨σ, w', _, h2, VR.undef, Sig.le_refl _, h3⟩
        · rename_i x y
          obtain ⟨h1, rfl⟩ := ret1_inv h
          refine wp_value (M := Builtin.max_ c.argTypes o.type (c.args.map a.eval)) (by simp only [execOp, hop, resolve, hcal, invoke, builtin]; rfl) (same hrep ?_) hK
          simp only [VRs] at hargs
          obtain ⟨vx, _, hx, ⟨vy, _, hy, rfl, rfl⟩, hl⟩ := hargs
          have e1 : c.args.map a.eval = #[vx, vy] := by apply Array.ext'; simpa using hl
          rw [e1]
          exact max_ok hR h1 hx hy _ _ _ _
        · rename_i x y
          obtain ⟨h1, rfl⟩ := ret1_inv h
          refine wp_value (M := Builtin.min_ c.argTypes o.type (c.args.map a.eval)) (by simp only [execOp, hop, resolve, hcal, invoke, builtin]; rfl) (same hrep ?_) hK
          simp only [VRs] at hargs
          obtain ⟨vx, _, hx, ⟨vy, _, hy, rfl, rfl⟩, hl⟩ := hargs
          have e1 : c.args.map a.eval = #[vx, vy] := by apply Array.ext'; simpa using hl
          rw [e1]
          exact min_ok hR h1 hx hy _ _ _ _
        · cases h
      · cases h
    · cases h
  case h_31 => cases h
end
end
end Go.Sy
