/- Calls: what the evaluator says of a function is what a call of it comes to. Conditions: the named integers lie in the ranges that were told. -/
import Derived.Test.YtpjakhjaicegjaaGreatDoorSy13
namespace Go.Sy
open Go.RowKit
variable {S : Sg}
noncomputable section

def evResults (P : Program) (R : Facts) (s : AS) (tm : Fr) : List ResultVar → Option (List AV)
  | [] => some []
  | .tmp t :: l => match fget tm t, evResults P R s tm l with
    | some v, some vs => some (v :: vs)
    | _, _ => none
  | .cell x t :: l => match fget tm x, evResults P R s tm l with
    | some a, some vs => match evLoad P R s t a with
      | some v => some (v :: vs)
      | none => none
    | _, _ => none

/-- Arguments laid into a frame. -/
def frameOf (tm : Fr) : List AV → Nat → Fr
  | [], _ => tm
  | a :: l, k => frameOf (Tr.set a 12 tm k) l (k + 1)

def oneOf : List AV → AV
  | [v] => v
  | vs => .tup vs

/-- A call: first what a table says, else the function's own text. -/
def evCall (P : Program) (R : Facts) (n : Nat) (ov : CallF) (lfs : FuncId → LoopF) : Nat → CallF
  | 0 => ov
  | d + 1 => fun f as s =>
    match ov f as s with
    | some r => some r
    | none =>
      match P.funcs[f]? with
      | some fn =>
        match fn.body with
        | some c =>
          if as.length ≤ fn.ntmps ∧ fn.ntmps < 4095 then
            match evCode P R (evCall P R n ov lfs d) (lfs f) n fn.ntmps c (frameOf .nil as 0) s with
            | some (.normal, tm, s') | some (.ret, tm, s') => match evResults P R s' tm fn.results.toList with
              | some vs => some (oneOf vs, s')
              | none => none
            | _ => none
          else none
        | none => none
      | none => none

section
variable {F : Fix S} {A : Nat → Prop} {w0 : World} {σ : Sig} {w : World} {s : AS} {P : Program} {R : Facts} {N : Nat} {tm : Fr} {a : Act}

def resOf (tmps : Array Value) : ResultVar → Sem Value
  | .tmp t => pure (tmps.getD t undef)
  | .cell a t => do loadVar t (← asAddr (tmps.getD a undef))

theorem results_eq (fn : Func) (tmps : Array Value) : results fn tmps = (do
    let vs ← fn.results.mapM (resOf tmps)
    pure (if h : vs.size = 1 then vs[0] else .tuple vs)) := by
  unfold results
  congr 1

theorem results_ok (hR : FOK F R) (h : Rep F A w0 σ w s) {tmps : Array Value} (htm : FR F σ N tm tmps) : ∀ (l : List ResultVar) {vs : List AV}, evResults P R s tm l = some vs →
    ∃ rl, (l.mapM (resOf tmps)).run P w = .ok rl w ∧ VRs F σ vs rl
  | [], vs, he => by
    simp only [evResults, Option.some.injEq] at he
    subst he
    exact ⟨[], by simp, by simp [VRs]⟩
  | .tmp t :: l, vs, he => by
    simp only [evResults] at he
    split at he
    · rename_i v us hv hus
      simp only [Option.some.injEq] at he
      subst he
      obtain ⟨rl, h1, h2⟩ := results_ok hR h htm l hus
      refine ⟨tmps.getD t undef :: rl, ?_, ?_⟩
      · simp only [List.mapM_cons, resOf, Sem.run_bind, Sem.run_pure, Result.andThen_ok, h1]
      · simp only [VRs]
        refine ⟨_, _, ?_, h2, rfl⟩
        exact htm.at_ t v hv
    · cases he
  | .cell x t :: l, vs, he => by
    simp only [evResults] at he
    split at he
    · rename_i a us ha hus
      split at he
      · rename_i v hv
        simp only [Option.some.injEq] at he
        subst he
        obtain ⟨rl, h1, h2⟩ := results_ok hR h htm l hus
        have hx' : VR F σ a (tmps.getD x undef) := htm.at_ x a ha
        obtain ⟨rv, h3, h4⟩ := load_ok (P := P) hR h hv hx'
        refine ⟨rv :: rl, ?_, ?_⟩
        · have hp : ∃ ad, tmps.getD x undef = .pointer (some ad) := by
            unfold evLoad at hv
            split at hv
            · simp only [VR] at hx'
              obtain ⟨_, _, _, _, _, he⟩ := hx'
              exact ⟨_, he⟩
            · simp only [VR] at hx'
              obtain ⟨b, κ, _, he⟩ := hx'
              exact ⟨_, he⟩
            · cases hv
          obtain ⟨ad, had⟩ := hp
          rw [had] at h3
          simp only [Instr.loadAt, Instr.sureAddr, Sem.run_bind, Sem.run_pure, Result.andThen_ok] at h3
          simp only [List.mapM_cons, resOf, Sem.run_bind, had, asAddr, Sem.run_pure, Result.andThen_ok, h3, h1]
        · simp only [VRs]
          exact ⟨_, _, h4, h2, rfl⟩
      · cases he
    · cases he

theorem run_results (hR : FOK F R) (h : Rep F A w0 σ w s) {tmps : Array Value} (htm : FR F σ N tm tmps) {fn : Func} {vs : List AV} (he : evResults P R s tm fn.results.toList = some vs) :
    ∃ rv, (results fn tmps).run P w = .ok rv w ∧ VR F σ (oneOf vs) rv := by
  obtain ⟨rl, h1, h2⟩ := results_ok hR h htm _ he
  have hrun : (results fn tmps).run P w = .ok (if h : rl.toArray.size = 1 then rl.toArray[0] else .tuple rl.toArray) w := by
    rw [results_eq, Array.mapM_eq_mapM_toList]
    simp only [Sem.run_bind, Sem.run_map, h1, Result.andThen_ok, Sem.run_pure]
  refine ⟨_, hrun, ?_⟩
  cases vs with
  | nil =>
    simp only [VRs] at h2
    subst h2
    simp [oneOf, VR, VRs]
  | cons v us =>
    simp only [VRs] at h2
    obtain ⟨y, ys, hy, hys, rfl⟩ := h2
    cases us with
    | nil =>
      simp only [VRs] at hys
      subst hys
      simpa [oneOf] using hy
    | cons u us =>
      have hl := hys.length
      have hne : ¬ (y :: ys).toArray.size = 1 := by simp only [List.size_toArray, List.length_cons] at hl ⊢; omega
      rw [dif_neg hne]
      simp only [oneOf, VR]
      exact ⟨_, by simp only [VRs]; exact ⟨y, ys, hy, by simpa only [VRs] using hys, rfl⟩, rfl⟩

theorem frameOf_get : ∀ (l : List AV) (tm : Fr) (k : Nat), k + l.length < 4095 → ∀ j, fget (frameOf tm l k) j = if k ≤ j ∧ j < k + l.length then l[j - k]? else fget tm j
  | [], tm, k, h, j => by
    have : ¬ (k ≤ j ∧ j < k + ([] : List AV).length) := by simp
    rw [if_neg this]
    rfl
  | x :: l, tm, k, h, j => by
    simp only [List.length_cons] at h
    simp only [frameOf]
    rw [frameOf_get l _ (k + 1) (by omega)]
    have hs : fget (Tr.set x 12 tm k) j = if j = k then some x else fget tm j := Tr.get_set x 12 tm k (by omega) j
    rw [hs]
    simp only [List.length_cons]
    by_cases h1 : j = k
    · subst h1
      have e1 : ¬ (j + 1 ≤ j ∧ j < j + 1 + l.length) := by omega
      have e2 : j ≤ j ∧ j < j + (l.length + 1) := by omega
      rw [if_neg e1, if_pos rfl, if_pos e2]
      simp
    · by_cases h2 : k + 1 ≤ j ∧ j < k + 1 + l.length
      · have e2 : k ≤ j ∧ j < k + (l.length + 1) := by omega
        rw [if_pos h2, if_pos e2, show j - k = (j - (k + 1)) + 1 from by omega]
        simp
      · have e2 : ¬ (k ≤ j ∧ j < k + (l.length + 1)) := by omega
        rw [if_neg h2, if_neg h1, if_neg e2]

theorem frame_start {as : List AV} {vs : List Value} (h : VRs F σ as vs) {N : Nat} (h1 : as.length ≤ N) (h2 : N < 4095) :
    FR F σ N (frameOf .nil as 0) (vs.toArray ++ Array.replicate (N - vs.toArray.size) undef) := by
  have hl := h.length
  refine ⟨by simp; omega, h2, fun t v hv => ?_⟩
  rw [frameOf_get as .nil 0 (by omega)] at hv
  by_cases ht : t < as.length
  · rw [if_pos ⟨Nat.zero_le _, by omega⟩, Nat.sub_zero] at hv
    obtain ⟨y, hy, hr⟩ := h.get t v hv
    simp only [Array.getD_eq_getD_getElem?, Array.getElem?_append, List.size_toArray, show t < vs.length by omega, if_true, List.getElem?_toArray, hy, Option.getD_some]
    exact hr
  · rw [if_neg (by omega)] at hv
    simp [fget, Tr.get_nil] at hv

/-- What a table of loops says, function by function, is so. -/
def LoopsOK (F : Fix S) (A : Nat → Prop) (w0 : World) (P : Program) (lfs : FuncId → LoopF) : Prop :=
  ∀ f fn c, P.funcs[f]? = some fn → fn.body = some c → ∀ x ∈ loopsOf c, LoopFits F A w0 P fn.ntmps (lfs f) x
theorem noLoops (F : Fix S) (A : Nat → Prop) (w0 : World) (P : Program) : LoopsOK F A w0 P (fun _ _ _ _ => none) := by
  intro f fn c _ _ x _ id _ tm s e tm' s' h
  cases h

theorem evCall_ok (hR : FOK F R) {n : Nat} {ov : CallF} {lfs : FuncId → LoopF} (hlf : LoopsOK F A w0 P lfs) (hov : CallOK F A w0 P ov) : ∀ d, CallOK F A w0 P (evCall P R n ov lfs d)
  | 0 => hov
  | d + 1 => by
    intro f as s v s' h σ w vs hvs hrep
    simp only [evCall] at h
    split at h
    · rename_i r hr
      simp only [Option.some.injEq] at h
      subst h
      exact hov f as s v s' hr σ w vs hvs hrep
    · split at h
      · rename_i fn hfn
        split at h
        · rename_i c hc
          split at h
          · rename_i hsz
            have htm := frame_start hvs hsz.1 hsz.2
            have fin : ∀ (e : Ex) (tm : Fr) (s1 : AS), (e = .normal ∨ e = .ret) → evCode P R (evCall P R n ov lfs d) (lfs f) n fn.ntmps c (frameOf .nil as 0) s = some (e, tm, s1) →
                (match evResults P R s1 tm fn.results.toList with | some vs => some (oneOf vs, s1) | none => none) = some (v, s') →
                Calls P f vs.toArray w fun e w' => ∃ σ' rv, e = .returned rv ∧ VR F σ' v rv ∧ σ.le σ' ∧ Rep F A w0 σ' w' s' := by
              intro e tm s1 he hcode hres
              split at hres
              · rename_i us hus
                simp only [Option.some.injEq, Prod.mk.injEq] at hres
                obtain ⟨rfl, rfl⟩ := hres
                refine calls_of_wp hfn hc (evCode_ok (evCall_ok hR hlf hov d) hR n c (hlf f fn c hfn hc) _ s σ w _ e tm s1 _ hcode hrep htm rfl fun σ' w' a' k1 k2 k3 k4 => ?_)
                obtain ⟨rv, h1, h2⟩ := run_results (P := P) hR k2 k3 hus
                rcases he with rfl | rfl
                · exact ⟨k4, rv, h1, σ', rv, rfl, h2, k1, k2⟩
                · exact ⟨k4, rv, h1, σ', rv, rfl, h2, k1, k2⟩
              · cases hres
            split at h
            · rename_i tm s1 hcode
              exact fin .normal tm s1 (.inl rfl) hcode h
            · rename_i tm s1 hcode
              exact fin .ret tm s1 (.inr rfl) hcode h
            · cases h
          · cases h
        · cases h
      · cases h
end
end
end Go.Sy
