/- A region whose order is drawn: whatever order comes, it ends as the evaluator says, which looks at every set of operations that may have been done. Conditions: as in the parts before. -/
import Derived.Test.YtpjakhjaicegjaaGreatDoorSy11
namespace Go.Sy
open Go.RowKit
variable {S : Sg}
noncomputable section

def dstOf (ops : Array Oper) (i : Nat) : Option Nat := (ops[i]?).bind (·.dst)
def directs (o : Oper) : List Nat := (o.after.toList.filter fun e => Region.binds .any e).map (·.on)
def valOf (vals : List AV) (i : Nat) : AV := vals.getD i (.tup [])

/-- Does an operation leave memory as it is, by its kind? -/
def isW : Op → Bool
  | .move _ | .assign _ | .pick _ _ _ | .build _ _ | .load _ _ | .nilCheck _ | .binOp _ _ _ _ _ | .unOp _ _ _ | .makeInterface _ _ | .makeFunc _ _ _ | .slice _ _ _ _ _ | .fieldAddr _ _ _ | .field _ _ _
  | .indexAddr _ _ _ | .index _ _ _ | .lookup _ _ _ _ | .entry _ | .extract _ _ => false
  | .call { callee := .builtin .len, .. } => false
  | _ => true

theorem isW_ok {P : Program} {R : Facts} {cf : CallF} {op : Op} {tm : Fr} {s s' : AS} {v : AV} (hw : isW op = false) (h : evOp P R cf op tm s = some (v, s')) : s' = s := by
  unfold evOp at h
  split at h <;> (try unfold aMove at h) <;> (try unfold aPick at h) <;> (try unfold aBuild at h) <;> (try unfold aLoad at h) <;> (try unfold aNilCheck at h) <;> (try unfold aBinOp at h) <;> (try unfold aUnOp at h) <;> (try unfold aMakeInterface at h) <;> (try unfold aMakeFunc at h) <;> (try unfold aSlice at h) <;> (try unfold aFieldAddr at h) <;> (try unfold aField at h) <;> (try unfold aIndexAddr at h) <;> (try unfold aIndex at h) <;> (try unfold aLookup at h) <;> (try unfold aEntry at h) <;> (try unfold aExtract at h) <;> (try unfold aCall at h) <;> first
    | (simp only [isW] at hw; cases hw; done)
    | (exact (ret1_inv h).2)
    | (cases h; done)
    | (split at h <;> first
        | (exact (ret1_inv h).2)
        | (simp only [Option.some.injEq, Prod.mk.injEq] at h; exact h.2.symm)
        | (cases h; done)
        | (split at h <;> first
            | (simp only [Option.some.injEq, Prod.mk.injEq] at h; exact h.2.symm)
            | (cases h; done)))
    | skip
  rename_i c
  split at h
  · split at h
    · rename_i as has f hc
      obtain ⟨cal, args, ts⟩ := c
      simp only at hc
      subst hc
      cases hw
    · rename_i as has b hc
      obtain ⟨cal, args, ts⟩ := c
      simp only at hc
      subst hc
      cases b <;> simp only [isW] at hw <;> first
        | (cases hw; done)
        | (unfold evBuiltin at h
           split at h <;> first
             | (exact (ret1_inv h).2)
             | (rename_i e _ _ _ _; cases e; done)
             | (rename_i e; cases e; done)
             | (cases h; done)
             | (simp_all; done))
    · cases h
  · cases h

section
variable (P : Program) (R : Facts) (cf : CallF) (ops : Array Oper) (N : Nat)

def evText : List Oper → Fr → AS → Option (List (AV × Nat × Fr) × Fr × AS)
  | [], tm, s => some ([], tm, s)
  | o :: rest, tm, s =>
    match evWanted ops tm o with
    | some true =>
      match evOp P R cf o.op tm s with
      | some (v, s') =>
        match evText rest (putA N o.dst v tm) s' with
        | some (l, r) => some ((v, s.next, tm) :: l, r)
        | none => none
      | none => none
    | some false =>
      match evText rest (putA N o.dst (.tup []) tm) s with
      | some (l, r) => some ((.tup [], s.next, tm) :: l, r)
      | none => none
    | none => none

def step (nx : List (Nat × Fr)) (i : Nat) (h : Tr AObj) : Option (AV × Tr AObj) :=
  match ops[i]? with
  | some o =>
    match evWanted ops (nx.getD i (0, .nil)).2 o with
    | some true =>
      match evOp P R cf o.op (nx.getD i (0, .nil)).2 ⟨h, (nx.getD i (0, .nil)).1⟩ with
      | some (v, s') => some (v, s'.h)
      | none => none
    | some false => some (.tup [], h)
    | none => none
  | none => none

def stOf (nx : List (Nat × Fr)) (vals : List AV) (h0 : Tr AObj) : List Nat → Option (Tr AObj)
  | [] => some h0
  | i :: m =>
    match stOf nx vals h0 m with
    | some h =>
      match step P R cf ops nx i h with
      | some (v, h') => if v.beq (valOf vals i) then some h' else none
      | none => none
    | none => none
end

def maskOf (M : List Nat) (o : Oper) : Nat := (directs o).foldl (fun s j => s ||| 2 ^ j ||| M.getD j 0) 0
def masks : List Oper → List Nat → List Nat
  | [], acc => acc
  | o :: rest, acc => masks rest (acc ++ [maskOf acc o])

def isWi (ops : Array Oper) (i : Nat) : Bool := match ops[i]? with
  | some o => isW o.op
  | none => false

def ins (i : Nat) : List Nat → List Nat
  | [] => [i]
  | j :: m => if j < i then i :: j :: m else j :: ins i m

def enabled (M : List Nat) (ws : List Nat) (i : Nat) (m : List Nat) : Bool :=
  (ws.all fun j => !(M.getD i 0).testBit j || m.contains j) && m.all fun j => !(M.getD j 0).testBit i

def ideals (M : List Nat) (all : List Nat) : List Nat → List (List Nat) → List (List Nat)
  | [], I => I
  | i :: ws, I => ideals M all ws (I ++ (I.filter fun m => enabled M all i m).map (i :: ·))

def checkSt (P : Program) (R : Facts) (cf : CallF) (ops : Array Oper) (nx : List (Nat × Fr)) (vals : List AV) (h0 : Tr AObj) (M ws : List Nat) (I : List (List Nat)) (n : Nat) (m : List Nat) : Bool :=
  match stOf P R cf ops nx vals h0 m with
  | some h =>
    (List.range n).all fun i =>
      m.contains i || !enabled M ws i m ||
      match step P R cf ops nx i h with
      | some (v, h') =>
        v.beq (valOf vals i) && (!isWi ops i || (I.contains (ins i m) && (ins i m == i :: m ||
          match stOf P R cf ops nx vals h0 (ins i m) with
          | some h'' => h'.beq h''
          | none => false)))
      | none => false
  | none => false

def distinct : List (Option Nat) → Bool
  | [] => true
  | none :: l => distinct l
  | some d :: l => !l.contains (some d) && distinct l

def looksOK (ops : Array Oper) (n : Nat) (M : List Nat) (i : Nat) (o : Oper) : Bool :=
  (o.op.operands.toList.all fun
    | .tmp t => (List.range n).all fun j => dstOf ops j != some t || (M.getD i 0).testBit j || (M.getD j 0).testBit i
    | _ => true) &&
  (match o.guard with
   | none => true
   | some (g, _) => (dstOf ops g).isSome && (M.getD i 0).testBit g && decide (g < n)) &&
  (directs o).all (fun j => decide (j < i)) && maskOf M o == M.getD i 0 &&
  true

def evDraw (P : Program) (R : Facts) (cf : CallF) (ops : Array Oper) (N : Nat) (tm : Fr) (s : AS) : Option (Fr × AS) :=
  match evText P R cf ops N ops.toList tm s with
  | some (l, tmF, sF) =>
    let n := ops.size
    let vals := l.map (·.1)
    let nx := l.map (·.2)
    let M := masks ops.toList []
    let ws := (List.range n).filter fun i => isWi ops i
    let I := ideals M ws ws [[]]
    if P.follows .mixedOrders && distinct (ops.toList.map (·.dst)) && (ops.toList.all fun o => match o.dst with | none => true | some d => decide (d < N)) &&
      (ops.toList.zipIdx.all fun (o, i) => looksOK ops n M i o) &&
      I.contains [] && (I.all fun m => !(ws.all fun i => m.contains i) || m == ws.reverse) && (I.all fun m => checkSt P R cf ops nx vals s.h M ws I n m) then
      match stOf P R cf ops nx vals s.h ws.reverse with
      | some h => some (tmF, ⟨h, sF.next⟩)
      | none => none
    else none
  | none => none

/-- A frame in which the operations of L are done. -/
structure Done (ops : Array Oper) (vals : List AV) (tm0 : Fr) (L : Nat → Prop) (tm : Fr) : Prop where
  here : ∀ i t, L i → dstOf ops i = some t → fget tm t = some (valOf vals i)
  rest : ∀ t, (∀ i, L i → dstOf ops i ≠ some t) → fget tm t = fget tm0 t

section
variable {ops : Array Oper} {vals : List AV} {tm0 tm : Fr} {L : Nat → Prop} {N : Nat}

theorem Done.step (hN : N < 4095) (hd : ∀ i j t, dstOf ops i = some t → dstOf ops j = some t → i = j) (hlt : ∀ i t, dstOf ops i = some t → t < N) (h : Done ops vals tm0 L tm) (i : Nat) :
    Done ops vals tm0 (fun j => L j ∨ j = i) (putA N (dstOf ops i) (valOf vals i) tm) := by
  cases hdi : dstOf ops i with
  | none =>
    refine ⟨fun j t hj ht => ?_, fun t ht => h.rest t fun j hj => ht j (.inl hj)⟩
    rcases hj with hj | rfl
    · exact h.here j t hj ht
    · rw [hdi] at ht; cases ht
  | some d =>
    have hl := hlt i d hdi
    refine ⟨fun j t hj ht => ?_, fun t ht => ?_⟩
    · simp only [putA]
      rw [fget_fset hN]
      by_cases hji : j = i
      · subst hji
        rw [hdi] at ht
        simp only [Option.some.injEq] at ht
        subst ht
        rw [if_pos ⟨rfl, hl⟩]
      · have hne : t ≠ d := fun e => hji (hd j i t ht (by rw [hdi, e]))
        rw [if_neg (fun hh => hne hh.1)]
        exact h.here j t (hj.resolve_right hji) ht
    · simp only [putA]
      rw [fget_fset hN]
      have hne : t ≠ d := fun e => ht i (.inr rfl) (by rw [hdi, e])
      rw [if_neg (fun hh => hne hh.1)]
      exact h.rest t fun j hj => ht j (.inl hj)

theorem distinct_ok : ∀ {l : List (Option Nat)}, distinct l = true → ∀ (i j t : Nat), l[i]? = some (some t) → l[j]? = some (some t) → i = j
  | [], _, i, j, t, h, _ => by simp at h
  | none :: l, h, i, j, t, hi, hj => by
    simp only [distinct] at h
    cases i with
    | zero => simp at hi
    | succ i =>
      cases j with
      | zero => simp at hj
      | succ j => simp at hi hj; rw [distinct_ok h i j t hi hj]
  | some d :: l, h, i, j, t, hi, hj => by
    simp only [distinct, Bool.and_eq_true, Bool.not_eq_true'] at h
    have hn : ∀ k : Nat, l[k]? ≠ some (some d) := by
      intro k hk
      have := List.mem_of_getElem? hk
      have h1 := h.1
      simp at h1
      exact h1 this
    cases i with
    | zero =>
      simp at hi
      subst hi
      cases j with
      | zero => rfl
      | succ j => simp at hj; exact absurd hj (hn j)
    | succ i =>
      cases j with
      | zero => simp at hi hj; subst hj; exact absurd hi (hn i)
      | succ j => simp at hi hj; rw [distinct_ok h.2 i j t hi hj]

theorem dstOf_map (i : Nat) (t : Nat) : dstOf ops i = some t ↔ (ops.toList.map (·.dst))[i]? = some (some t) := by
  simp only [dstOf, List.getElem?_map, Array.getElem?_toList]
  cases ops[i]? <;> simp

theorem testBit_mask : ∀ (l : List Nat) (M : List Nat) (s j : Nat), (l.foldl (fun s j => s ||| 2 ^ j ||| M.getD j 0) s).testBit j = true ↔ s.testBit j = true ∨ ∃ k ∈ l, k = j ∨ (M.getD k 0).testBit j = true
  | [], M, s, j => by simp
  | k :: l, M, s, j => by
    simp only [List.foldl_cons, testBit_mask l M, Nat.testBit_or, Bool.or_eq_true, Nat.testBit_two_pow, decide_eq_true_eq, List.mem_cons, exists_eq_or_imp]
    constructor
    · rintro (((h | h) | h) | h)
      · exact .inl h
      · exact .inr (.inl (.inl h))
      · exact .inr (.inl (.inr h))
      · exact .inr (.inr h)
    · rintro (h | (h | h) | h)
      · exact .inl (.inl (.inl h))
      · exact .inl (.inl (.inr h))
      · exact .inl (.inr h)
      · exact .inr h

theorem mem_ins (i : Nat) : ∀ (m : List Nat) (j : Nat), j ∈ ins i m ↔ j = i ∨ j ∈ m
  | [], j => by simp [ins]
  | k :: m, j => by
    simp only [ins]
    split
    · simp
    · simp only [List.mem_cons, mem_ins i m]
      constructor
      · rintro (h | h | h)
        · exact .inr (.inl h)
        · exact .inl h
        · exact .inr (.inr h)
      · rintro (h | h | h)
        · exact .inr (.inl h)
        · exact .inl h
        · exact .inr (.inr h)

theorem evText_done {P : Program} {R : Facts} {cf : CallF} (ops : Array Oper) : ∀ (l : List Oper) (tm : Fr) (s : AS) {r : List (AV × Nat × Fr)} {tmF : Fr} {sF : AS}, evText P R cf ops N l tm s = some (r, tmF, sF) →
    r.length = l.length ∧ tmF = (l.zip r).foldl (fun tm p => putA N p.1.dst p.2.1 tm) tm ∧ ∀ i p, r[i]? = some p → p.2.2 = ((l.zip r).take i).foldl (fun tm p => putA N p.1.dst p.2.1 tm) tm
  | [], tm, s, r, tmF, sF, h => by
    simp only [evText, Option.some.injEq, Prod.mk.injEq] at h
    obtain ⟨rfl, rfl, rfl⟩ := h
    exact ⟨rfl, rfl, fun i p hp => by simp at hp⟩
  | o :: l, tm, s, r, tmF, sF, h => by
    simp only [evText] at h
    have frames : ∀ (v : AV) (r' : List (AV × Nat × Fr)) (tm1 : Fr), tm1 = putA N o.dst v tm → (∀ i p, r'[i]? = some p → p.2.2 = ((l.zip r').take i).foldl (fun tm p => putA N p.1.dst p.2.1 tm) tm1) →
        ∀ i p, ((v, s.next, tm) :: r')[i]? = some p → p.2.2 = (((o :: l).zip ((v, s.next, tm) :: r')).take i).foldl (fun tm p => putA N p.1.dst p.2.1 tm) tm := by
      intro v r' tm1 e hr i p hp
      cases i with
      | zero => simp only [List.getElem?_cons_zero, Option.some.injEq] at hp; subst hp; rfl
      | succ i =>
        simp only [List.getElem?_cons_succ] at hp
        rw [hr i p hp, e]
        rfl
    split at h
    · split at h
      · split at h
        · rename_i l' r' hl
          simp only [Option.some.injEq, Prod.mk.injEq] at h
          obtain ⟨rfl, rfl⟩ := h
          obtain ⟨h1, h2, h3⟩ := evText_done ops l _ _ hl
          exact ⟨by simp [h1], by simpa using h2, frames _ _ _ rfl h3⟩
        · cases h
      · cases h
    · split at h
      · rename_i l' r' hl
        simp only [Option.some.injEq, Prod.mk.injEq] at h
        obtain ⟨rfl, rfl⟩ := h
        obtain ⟨h1, h2, h3⟩ := evText_done ops l _ _ hl
        exact ⟨by simp [h1], by simpa using h2, frames _ _ _ rfl h3⟩
      · cases h
    · cases h

theorem done_fold (hN : N < 4095) (hd : ∀ i j t, dstOf ops i = some t → dstOf ops j = some t → i = j) (hlt : ∀ i t, dstOf ops i = some t → t < N) (r : List (AV × Nat × Fr)) :
    ∀ (l : List Oper) (q : List (AV × Nat × Fr)) (k : Nat) (tm : Fr), (∀ j x, l[j]? = some x → ops.toList[k + j]? = some x) → (∀ j x, q[j]? = some x → r[k + j]? = some x) → l.length = q.length → Done ops (r.map (·.1)) tm0 (fun i => i < k) tm →
    Done ops (r.map (·.1)) tm0 (fun i => i < k + l.length) ((l.zip q).foldl (fun tm p => putA N p.1.dst p.2.1 tm) tm)
  | [], q, k, tm, _, _, _, h => by simpa using h
  | o :: l, [], k, tm, _, _, hl, _ => by simp at hl
  | o :: l, p :: q, k, tm, ho, hq, hl, h => by
    have e1 : dstOf ops k = o.dst := by
      have := ho 0 o rfl
      simp at this
      simp [dstOf, this]
    have e2 : valOf (r.map (·.1)) k = p.1 := by
      have := hq 0 p rfl
      simp at this
      simp [valOf, List.getD, this]
    have hstep := h.step hN hd hlt k
    rw [e1, e2] at hstep
    have hst2 : Done ops (r.map (·.1)) tm0 (fun i => i < k + 1) (putA N o.dst p.1 tm) := by
      have e : (fun i => i < k + 1) = (fun j => j < k ∨ j = k) := by funext i; simp only [eq_iff_iff]; omega
      rw [e]; exact hstep
    have := done_fold hN hd hlt r l q (k + 1) _ (fun j x hx => by have := ho (j + 1) x (by simpa using hx); rw [show k + (j + 1) = k + 1 + j from by omega] at this; exact this)
      (fun j x hx => by have := hq (j + 1) x (by simpa using hx); rw [show k + (j + 1) = k + 1 + j from by omega] at this; exact this) (by simpa using hl) hst2
    simp only [List.zip_cons_cons, List.foldl_cons, List.length_cons]
    have e : k + (l.length + 1) = k + 1 + l.length := by omega
    rw [e]; exact this
end

section
variable {F : Fix S} {A : Nat → Prop} {w0 : World} {σ : Sig} {w : World} {P : Program} {R : Facts} {cf : CallF} {N : Nat}

theorem Rep.sameTr {s s' : AS} (h : Rep F A w0 σ w s) (he : s'.h = s.h) : Rep F A w0 σ w s' := by
  have hg : ∀ id, s'.get id = s.get id := fun id => by simp only [AS.get, he]
  obtain ⟨φ, h⟩ := h
  exact ⟨φ, h.kept, fun id o ho => h.obj id o (by rw [← hg]; exact ho), fun id o ho => h.own id o (by rw [← hg]; exact ho),
    fun i j o p hij hi hj => h.inj i j o p hij (by rw [← hg]; exact hi) (by rw [← hg]; exact hj), fun id o b κ ho => h.ro id o b κ (by rw [← hg]; exact ho),
    fun id ho => h.fresh id (by rw [← hg]; exact ho)⟩

/-- What the checks of a drawn region say. -/
structure DrawOK (P : Program) (R : Facts) (cf : CallF) (ops : Array Oper) (N : Nat) (tm0 tmF : Fr) (nx : List (Nat × Fr)) (vals : List AV) (h0 : Tr AObj) (M ws : List Nat) (I : List (List Nat)) : Prop where
  uniq : ∀ i j t, dstOf ops i = some t → dstOf ops j = some t → i = j
  lt : ∀ i t, dstOf ops i = some t → t < N
  looks : ∀ i o, ops[i]? = some o → looksOK ops ops.size M i o = true
  nil : [] ∈ I
  st : ∀ m ∈ I, checkSt P R cf ops nx vals h0 M ws I ops.size m = true
  ws : ∀ i, i ∈ ws ↔ i < ops.size ∧ isWi ops i = true
  fin : Done ops vals tm0 (fun i => i < ops.size) tmF
  at_ : ∀ i, i < ops.size → Done ops vals tm0 (fun j => j < i) (nx.getD i (0, .nil)).2

def Lst (L : Array Bool) (i : Nat) : Prop := L.getD i false = true

theorem yes_of_ready {ops : Array Oper} {L : Array Bool} {i : Nat} (h : i ∈ Region.ready .any ops L) (hL : L.size = ops.size) :
    i < ops.size ∧ ¬ Lst L i ∧ ∃ o, ops[i]? = some o ∧ ∀ j ∈ directs o, Lst L j := by
  simp only [Region.ready, List.mem_filter, List.mem_range, Bool.and_eq_true, Bool.not_eq_true'] at h
  obtain ⟨h1, h2, h3⟩ := h
  refine ⟨h1, ?_, ?_⟩
  · unfold Lst
    have hi : i < L.size := by omega
    simp only [Array.getD_eq_getD_getElem?, Array.getElem?_eq_getElem hi, Option.getD_some] at h2 ⊢
    simp [h2]
  · cases ho : ops[i]? with
    | none => simp [ho] at h3
    | some o =>
      refine ⟨o, rfl, ?_⟩
      simp only [ho, Option.map_some, Option.getD_some] at h3
      intro j hj
      simp only [directs, List.mem_map, List.mem_filter] at hj
      obtain ⟨e, ⟨he, hb⟩, rfl⟩ := hj
      have := (Array.all_eq_true_iff_forall_mem.1 h3) e (by simpa using he)
      simpa [hb, Lst] using this

theorem ready_of_yes {ops : Array Oper} {L : Array Bool} {i : Nat} (h1 : i < ops.size) (hL : L.size = ops.size) (h2 : ¬ Lst L i) {o : Oper} (ho : ops[i]? = some o) (h3 : ∀ j ∈ directs o, Lst L j) : i ∈ Region.ready .any ops L := by
  simp only [Region.ready, List.mem_filter, List.mem_range, Bool.and_eq_true, Bool.not_eq_true']
  refine ⟨h1, ?_, ?_⟩
  · have hi : i < L.size := by omega
    unfold Lst at h2
    simp only [Array.getD_eq_getD_getElem?, Array.getElem?_eq_getElem hi, Option.getD_some] at h2 ⊢
    simpa using h2
  · simp only [ho, Option.map_some, Option.getD_some]
    refine Array.all_eq_true_iff_forall_mem.2 fun e he => ?_
    cases hb : Region.binds .any e with
    | false => rfl
    | true =>
      have := h3 e.on (by simp only [directs, List.mem_map, List.mem_filter]; exact ⟨e, ⟨by simpa using he, hb⟩, rfl⟩)
      simpa [Lst] using this

theorem Lst_set {L : Array Bool} {i j : Nat} (hi : i < L.size) : Lst (L.setIfInBounds i true) j ↔ Lst L j ∨ j = i := by
  unfold Lst
  simp only [Array.getD_eq_getD_getElem?, Array.getElem?_setIfInBounds]
  by_cases h : i = j
  · subst h; simp [hi]
  · simp [h, Ne.symm h]

def unl (L : Array Bool) : Nat := L.toList.count false

theorem unl_set {L : Array Bool} {i : Nat} (hi : i < L.size) (h : ¬ Lst L i) : unl (L.setIfInBounds i true) + 1 = unl L := by
  unfold unl
  have hf : L[i] = false := by
    unfold Lst at h
    simpa [Array.getD_eq_getD_getElem?, Array.getElem?_eq_getElem hi] using h
  have hfl : L.toList[i]'(by simpa using hi) = false := by simpa using hf
  rw [Array.toList_setIfInBounds, List.count_set (by simpa using hi)]
  have hpos : 0 < L.toList.count false := List.count_pos_iff.2 (by rw [← hfl]; exact List.getElem_mem _)
  have e : ((true : Bool) == false) = false := rfl
  simp only [hfl, beq_self_eq_true, if_true, e, Bool.false_eq_true, if_false]
  omega

theorem all_of_unl {L : Array Bool} (h : unl L = 0) {i : Nat} (hi : i < L.size) : Lst L i := by
  unfold unl at h
  have := List.count_eq_zero.1 h
  unfold Lst
  simp only [Array.getD_eq_getD_getElem?, Array.getElem?_eq_getElem hi, Option.getD_some]
  cases hv : L[i] with
  | true => rfl
  | false => exact absurd (by rw [← hv]; simp) this

variable {ops : Array Oper} {tm0 tmF : Fr} {nx : List (Nat × Fr)} {vals : List AV} {h0 : Tr AObj} {M ws : List Nat} {I : List (List Nat)}

theorem mask_lt (C : DrawOK P R cf ops N tm0 tmF nx vals h0 M ws I) : ∀ i, i < ops.size → ∀ j, (M.getD i 0).testBit j = true → j < i := by
  intro i
  induction i using Nat.strongRecOn with
  | _ i ih =>
    intro hi j hj
    have ho : ops[i]? = some ops[i] := by simp [hi]
    have hl := C.looks i _ ho
    simp only [looksOK, Bool.and_eq_true, beq_iff_eq] at hl
    obtain ⟨⟨⟨⟨_, _⟩, h3⟩, h4⟩, _⟩ := hl
    rw [← h4] at hj
    unfold maskOf at hj
    rcases (testBit_mask _ _ _ _).1 hj with h0' | ⟨k, hk, hkj⟩
    · simp at h0'
    · have hki : k < i := by simpa using List.all_eq_true.1 h3 k hk
      rcases hkj with rfl | hkj
      · exact hki
      · exact Nat.lt_trans (ih k hki (by omega) j hkj) hki

theorem looks_agree (C : DrawOK P R cf ops N tm0 tmF nx vals h0 M ws I) {L : Nat → Prop} {tm : Fr} (hD : Done ops vals tm0 L tm) {i : Nat} {o : Oper} (hio : ops[i]? = some o) (hnL : ¬ L i) (hcl : ∀ k j, k < ops.size → L k → (M.getD k 0).testBit j = true → L j)
    (hpre : ∀ j, (M.getD i 0).testBit j = true → L j) : (∀ x ∈ o.op.operands.toList, evO tm x = evO (nx.getD i (0, .nil)).2 x) ∧ evWanted ops tm o = evWanted ops (nx.getD i (0, .nil)).2 o := by
  have hl := C.looks i o hio
  have hi : i < ops.size := (Array.getElem?_eq_some_iff.1 hio).1
  have hat := C.at_ i hi
  simp only [looksOK, Bool.and_eq_true] at hl
  obtain ⟨⟨⟨⟨h1, h2⟩, h3⟩, h4⟩, _⟩ := hl
  have key : ∀ t, (∀ j, j < ops.size → dstOf ops j = some t → (M.getD i 0).testBit j = true ∨ (M.getD j 0).testBit i = true) → fget tm t = fget (nx.getD i (0, .nil)).2 t := by
    intro t ht
    by_cases hex : ∃ j, j < ops.size ∧ dstOf ops j = some t
    · obtain ⟨j, hj, hjt⟩ := hex
      rcases ht j hj hjt with hb | hb
      · rw [hD.here j t (hpre j hb) hjt, hat.here j t (mask_lt C i hi j hb) hjt]
      · have hij := mask_lt C j hj i hb
        rw [hD.rest t fun k hk hkt => by
          have : k = j := C.uniq k j t hkt hjt
          subst this
          exact hnL (hcl k i hj hk hb), hat.rest t fun k hk hkt => by
          have : k = j := C.uniq k j t hkt hjt
          subst this
          have : k < i := hk
          omega]
    · have hno : ∀ j, dstOf ops j ≠ some t := by
        intro j hj
        refine hex ⟨j, ?_, hj⟩
        simp only [dstOf] at hj
        cases ho : ops[j]? with
        | none => simp [ho] at hj
        | some o' => exact (Array.getElem?_eq_some_iff.1 ho).1
      rw [hD.rest t fun j _ => hno j, hat.rest t fun j _ => hno j]
  refine ⟨fun x hx => evO_congr fun t ht => ?_, ?_⟩
  · subst ht
    have hh := List.all_eq_true.1 h1 _ hx
    simp only [List.all_eq_true, List.mem_range, Bool.or_eq_true, bne_iff_ne, ne_eq] at hh
    exact key t fun j hj hjt => by
      rcases hh j hj with (e | e) | e
      · exact absurd hjt e
      · exact .inl e
      · exact .inr e
  · unfold evWanted
    cases hg : o.guard with
    | none => rfl
    | some p =>
      obtain ⟨g, want⟩ := p
      simp only [hg, Bool.and_eq_true, decide_eq_true_eq] at h2
      obtain ⟨⟨h5, h6⟩, h7⟩ := h2
      simp only []
      have e : (ops[g]?).bind (·.dst) = dstOf ops g := rfl
      rw [e]
      cases hd : dstOf ops g with
      | none => rfl
      | some d =>
        simp only []
        have : fget tm d = fget (nx.getD i (0, .nil)).2 d := by rw [hD.here g d (hpre g h6) hd, hat.here g d (mask_lt C i hi g h6) hd]
        rw [this]

theorem draw_any (hcf : CallOK F A w0 P cf) (hR : FOK F R) (C : DrawOK P R cf ops N tm0 tmF nx vals h0 M ws I) {Q : Exit → Act → World → Prop} {hF : Tr AObj} (σ0 : Sig) (ds : List Deferred)
    (hlast : ∀ m ∈ I, (∀ i, i < ops.size → isWi ops i = true → i ∈ m) → (∀ i ∈ m, i < ops.size ∧ isWi ops i = true) → stOf P R cf ops nx vals h0 m = some hF)
    (hQ : ∀ σ' w' a', σ0.le σ' → Rep F A w0 σ' w' ⟨hF, 0⟩ → FR F σ' N tmF a'.tmps → a'.defers = ds → Q .normal a' w') :
    ∀ (fuel : Nat) (L : Array Bool) (a : Act) (w : World) (σ : Sig) (tm : Fr) (m : List Nat) (h : Tr AObj), unl L ≤ fuel → L.size = ops.size → (∀ i j, Lst L i → (M.getD i 0).testBit j = true → Lst L j) →
      Done ops vals tm0 (Lst L) tm → FR F σ N tm a.tmps → a.defers = ds → σ0.le σ → m ∈ I → (∀ i, i ∈ m ↔ Lst L i ∧ i < ops.size ∧ isWi ops i = true) → stOf P R cf ops nx vals h0 m = some h → Rep F A w0 σ w ⟨h, 0⟩ →
      wpAny P .any ops Q fuel L a w := by
  intro fuel
  have finish : ∀ (L : Array Bool) (a : Act) (w : World) (σ : Sig) (tm : Fr) (m : List Nat) (h : Tr AObj), unl L = 0 → L.size = ops.size →
      Done ops vals tm0 (Lst L) tm → FR F σ N tm a.tmps → a.defers = ds → σ0.le σ → m ∈ I → (∀ i, i ∈ m ↔ Lst L i ∧ i < ops.size ∧ isWi ops i = true) → stOf P R cf ops nx vals h0 m = some h → Rep F A w0 σ w ⟨h, 0⟩ → Q .normal a w := by
    intro L a w σ tm m h hu hL hD htm hds hσ hm hmem hst hrep
    have hall : ∀ i, i < ops.size → Lst L i := fun i hi => all_of_unl hu (by omega)
    have e := hlast m hm (fun i hi hw => (hmem i).2 ⟨hall i hi, hi, hw⟩) (fun i hi => ((hmem i).1 hi).2)
    rw [hst] at e
    simp only [Option.some.injEq] at e
    subst e
    have etm : ∀ t, fget tm t = fget tmF t := by
      intro t
      by_cases hex : ∃ j, dstOf ops j = some t
      · obtain ⟨j, hj⟩ := hex
        have hjn : j < ops.size := by
          simp only [dstOf] at hj
          cases ho : ops[j]? with
          | none => simp [ho] at hj
          | some o' => exact (Array.getElem?_eq_some_iff.1 ho).1
        rw [hD.here j t (hall j hjn) hj, C.fin.here j t hjn hj]
      · rw [hD.rest t fun j _ e => hex ⟨j, e⟩, C.fin.rest t fun j _ e => hex ⟨j, e⟩]
    exact hQ σ w a hσ hrep ⟨htm.size, htm.small, fun t => by rw [← etm]; exact htm.at_ t⟩ hds
  induction fuel with
  | zero =>
    intro L a w σ tm m h hu hL hcl hD htm hds hσ hm hmem hst hrep
    have hu0 : unl L = 0 := by omega
    refine ⟨?_, finish L a w σ tm m h hu0 hL hD htm hds hσ hm hmem hst hrep⟩
    cases hr : Region.ready .any ops L with
    | nil => rfl
    | cons i l =>
      have hi : i ∈ Region.ready .any ops L := by rw [hr]; simp
      obtain ⟨h1, h2, _⟩ := yes_of_ready hi hL
      exact absurd (all_of_unl hu0 (by omega)) h2
  | succ fuel ih =>
    intro L a w σ tm m h hu hL hcl hD htm hds hσ hm hmem hst hrep
    refine ⟨fun hr => ?_, fun i hi => ?_⟩
    · refine finish L a w σ tm m h ?_ hL hD htm hds hσ hm hmem hst hrep
      -- if nothing is ready, all is done: else the least that is not done is ready
      have hall : ∀ i, i < ops.size → Lst L i := by
        intro i
        induction i using Nat.strongRecOn with
        | _ i ihi =>
          intro hi
          apply Classical.byContradiction
          intro hn
          have ho : ops[i]? = some ops[i] := by simp [hi]
          have hl := C.looks i _ ho
          simp only [looksOK, Bool.and_eq_true] at hl
          have hd := hl.1.1.2
          have := ready_of_yes hi hL hn ho fun j hj => by
            have hj' := List.all_eq_true.1 hd j hj
            simp only [decide_eq_true_eq] at hj'
            exact ihi j hj' (by omega)
          rw [hr] at this
          cases this
      unfold unl
      refine List.count_eq_zero.2 fun hmf => ?_
      obtain ⟨k, hk, hkf⟩ := List.getElem_of_mem hmf
      have hk' : k < L.size := by simpa using hk
      have := hall k (by omega)
      unfold Lst at this
      simp only [Array.getD_eq_getD_getElem?, Array.getElem?_eq_getElem hk', Option.getD_some] at this
      have h2 : L[k] = false := by simpa using hkf
      rw [h2] at this
      cases this
    · obtain ⟨h1, h2, o, ho, hdir⟩ := yes_of_ready hi hL
      have hiL : i < L.size := by omega
      have hlk := C.looks i o ho
      simp only [looksOK, Bool.and_eq_true, beq_iff_eq] at hlk
      have hmask := hlk.1.2
      -- all that must come ahead is done
      have hpre : ∀ j, (M.getD i 0).testBit j = true → Lst L j := by
        intro j hj
        rw [← hmask] at hj
        unfold maskOf at hj
        rcases (testBit_mask _ _ _ _).1 hj with h0' | ⟨k, hk, hkj⟩
        · simp at h0'
        · rcases hkj with rfl | hkj
          · exact hdir _ hk
          · exact hcl k j (hdir k hk) hkj
      obtain ⟨hag, hwa⟩ := looks_agree C hD ho h2 (fun k j _ hk hb => hcl k j hk hb) hpre
      have hck := C.st m hm
      unfold checkSt at hck
      rw [hst] at hck
      simp only [List.all_eq_true, List.mem_range] at hck
      have hci := hck i h1
      have hnm : m.contains i = false := by
        have : i ∉ m := fun hh => h2 ((hmem i).1 hh).1
        simpa using this
      have hen : enabled M ws i m = true := by
        simp only [enabled, Bool.and_eq_true, List.all_eq_true, Bool.or_eq_true, Bool.not_eq_true']
        refine ⟨fun j hj => ?_, fun j hj => ?_⟩
        · by_cases hb : (M.getD i 0).testBit j = true
          · right
            have := (C.ws j).1 hj
            have hmj := (hmem j).2 ⟨hpre j hb, this.1, this.2⟩
            simpa using hmj
          · left; simpa using hb
        · have hLj := ((hmem j).1 hj).1
          cases hb : (M.getD j 0).testBit i with
          | false => rfl
          | true => exact absurd (hcl j i hLj hb) h2
      simp only [hnm, hen, Bool.not_true, Bool.false_or] at hci
      split at hci
      · rename_i v h' hstep
        simp only [Bool.and_eq_true, Bool.or_eq_true, Bool.not_eq_true'] at hci
        obtain ⟨hv, hrest⟩ := hci
        have hvv := AV.beq_eq _ _ hv
        subst hvv
        -- the next set of done writers, and its memory
        obtain ⟨m', hm', hmem', hst'⟩ : ∃ m', m' ∈ I ∧ (∀ j, j ∈ m' ↔ (Lst L j ∨ j = i) ∧ j < ops.size ∧ isWi ops j = true) ∧ stOf P R cf ops nx vals h0 m' = some h' := by
          by_cases hW : isWi ops i = true
          · obtain ⟨hin, hor⟩ := (hrest.resolve_left (by rw [hW]; simp))
            refine ⟨ins i m, by simpa using hin, fun j => ?_, ?_⟩
            · rw [mem_ins, hmem]
              constructor
              · rintro (rfl | ⟨x1, x2, x3⟩)
                · exact ⟨.inr rfl, h1, hW⟩
                · exact ⟨.inl x1, x2, x3⟩
              · rintro ⟨x1 | rfl, x2, x3⟩
                · exact .inr ⟨x1, x2, x3⟩
                · exact .inl rfl
            · rcases hor with he | he
              · rw [beq_iff_eq] at he
                rw [he]
                simp only [stOf, hst, hstep, hv, if_true]
              · split at he
                · rename_i h'' hs''
                  rw [hs'', Tr.beq_eq he]
                · cases he
          · have hWf : isWi ops i = false := by simpa using hW
            refine ⟨m, hm, fun j => ?_, ?_⟩
            · rw [hmem]
              constructor
              · rintro ⟨x1, x2, x3⟩; exact ⟨.inl x1, x2, x3⟩
              · rintro ⟨x1 | rfl, x2, x3⟩
                · exact ⟨x1, x2, x3⟩
                · exact absurd x3 hW
            · rw [hst]
              unfold step at hstep
              simp only [ho] at hstep
              split at hstep
              · split at hstep
                · rename_i v' s' hop
                  simp only [Option.some.injEq, Prod.mk.injEq] at hstep
                  have hwo : isW o.op = false := by simpa [isWi, ho] using hWf
                  have := isW_ok hwo hop
                  rw [← hstep.2, this]
                · cases hstep
              · simp only [Option.some.injEq, Prod.mk.injEq] at hstep
                rw [← hstep.2]
              · cases hstep
        have hu' : unl (L.setIfInBounds i true) ≤ fuel := by have := unl_set hiL h2; omega
        have hcl' : ∀ k j, Lst (L.setIfInBounds i true) k → (M.getD k 0).testBit j = true → Lst (L.setIfInBounds i true) j := by
          intro k j hk hb
          rw [Lst_set hiL] at hk ⊢
          rcases hk with hk | rfl
          · exact .inl (hcl k j hk hb)
          · exact .inl (hpre j hb)
        have hD' : Done ops vals tm0 (Lst (L.setIfInBounds i true)) (putA N o.dst (valOf vals i) tm) := by
          have := hD.step htm.small C.uniq C.lt i
          have e1 : dstOf ops i = o.dst := by simp [dstOf, ho]
          rw [e1] at this
          have e2 : Lst (L.setIfInBounds i true) = fun j => Lst L j ∨ j = i := by funext j; exact propext (Lst_set hiL)
          rw [e2]; exact this
        have hmemL : ∀ j, j ∈ m' ↔ Lst (L.setIfInBounds i true) j ∧ j < ops.size ∧ isWi ops j = true := fun j => by rw [Lst_set hiL]; exact hmem' j
        unfold wpOp
        simp only [ho]
        unfold step at hstep
        simp only [ho] at hstep
        split at hstep
        · rename_i hw
          rw [← hwa] at hw
          rw [if_pos (wanted_ok htm hw)]
          left
          split at hstep
          · rename_i v' s' hop
            simp only [Option.some.injEq, Prod.mk.injEq] at hstep
            obtain ⟨rfl, rfl⟩ := hstep
            rw [← evOp_congr hag] at hop
            refine evOp_ok hcf hR (hrep.sameTr (s' := ⟨h, (nx.getD i (0, .nil)).1⟩) rfl) htm hop fun σ' w' rv hle hvr hrep' => ?_
            exact ih _ _ w' σ' _ m' s'.h hu' (by simpa using hL) hcl' hD' (put_ok (htm.mono hle) hvr o.dst) ((put_defers _ _).trans hds) (Sig.le_trans hσ hle) hm' hmemL hst' (hrep'.sameTr rfl)
          · cases hstep
        · rename_i hw
          rw [← hwa] at hw
          rw [if_neg (by rw [wanted_ok htm hw]; simp)]
          simp only [Option.some.injEq, Prod.mk.injEq] at hstep
          obtain ⟨hv0, rfl⟩ := hstep
          refine ih _ _ w σ _ m' h hu' (by simpa using hL) hcl' hD' ?_ ((put_defers _ _).trans hds) hσ hm' hmemL hst' hrep
          rw [← hv0]
          exact put_ok htm VR.undef o.dst
        · cases hstep
      · cases hci
end
end
end Go.Sy
