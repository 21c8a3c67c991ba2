/- Code and calls: what the evaluator says of a function is what a call of it comes to. Conditions: the named integers lie in the ranges that were told. -/
import Derived.Test.YtpjakhjaicegjaaGreatDoorSy12
import Derived.LoopN
import Derived.Scope
namespace Go.Sy
open Go.RowKit
variable {S : Sg}
noncomputable section

section
variable {F : Fix S} {A : Nat → Prop} {w0 : World} {σ : Sig} {w : World} {s : AS} {P : Program} {R : Facts} {cf : CallF} {N : Nat} {tm : Fr} {a : Act}

theorem done_start (ops : Array Oper) (vals : List AV) (tm0 : Fr) (L : Nat → Prop) (hL : ∀ i, ¬ L i) : Done ops vals tm0 L tm0 :=
  ⟨fun i _ hi => absurd hi (hL i), fun _ _ => rfl⟩

theorem evDraw_ok (hcf : CallOK F A w0 P cf) (hR : FOK F R) {ops : Array Oper} {id : Nat} {Q : Exit → Act → World → Prop} {tm' : Fr} {s' : AS} (h : evDraw P R cf ops N tm s = some (tm', s')) (hrep : Rep F A w0 σ w s) (htm : FR F σ N tm a.tmps)
    (hQ : ∀ σ' w' a', σ.le σ' → Rep F A w0 σ' w' s' → FR F σ' N tm' a'.tmps → a'.defers = a.defers → Q .normal a' w') : (Code.region id ops true).wp P Q a w := by
  unfold evDraw at h
  split at h
  · rename_i l tmF sF htext
    simp only [] at h
    split at h
    · rename_i hc
      simp only [Bool.and_eq_true] at hc
      obtain ⟨⟨⟨⟨⟨⟨hm, hdis⟩, hlt⟩, hlk⟩, hnil⟩, hlst⟩, hst⟩ := hc
      split at h
      · rename_i hF hfin
        simp only [Option.some.injEq, Prod.mk.injEq] at h
        obtain ⟨rfl, rfl⟩ := h
        generalize hM : masks ops.toList [] = M at *
        generalize hws : (List.range ops.size).filter (fun i => isWi ops i) = ws at *
        generalize hI : ideals M ws ws [[]] = I at *
        have uniq : ∀ i j t, dstOf ops i = some t → dstOf ops j = some t → i = j := fun i j t hi hj => distinct_ok hdis i j t ((dstOf_map i t).1 hi) ((dstOf_map j t).1 hj)
        have lt : ∀ i t, dstOf ops i = some t → t < N := by
          intro i t hi
          simp only [dstOf] at hi
          cases ho : ops[i]? with
          | none => simp [ho] at hi
          | some o =>
            simp only [ho, Option.bind_some] at hi
            have hmem : o ∈ ops.toList := by
              rw [Array.mem_toList_iff]
              exact Array.mem_of_getElem? ho
            have := List.all_eq_true.1 hlt o hmem
            rw [hi] at this
            simpa using this
        obtain ⟨hlen, htmF, hfr⟩ := evText_done ops _ _ _ htext
        have C : DrawOK P R cf ops N tm tmF (l.map (·.2)) (l.map (·.1)) s.h M ws I := by
          refine ⟨uniq, lt, fun i o ho => ?_, by simpa using hnil, fun m hm => List.all_eq_true.1 hst m hm, fun i => ?_, ?_, fun i hi => ?_⟩
          · refine List.all_eq_true.1 hlk (o, i) ?_
            rw [List.mem_zipIdx_iff_getElem?]
            simpa using ho
          · rw [← hws]; simp
          · have := done_fold (tm0 := tm) htm.small uniq lt l ops.toList l 0 tm (fun j x hx => by simpa using hx) (fun j x hx => by simpa using hx) (by simpa using hlen.symm) (done_start ops _ tm _ (by intro i hi; omega))
            rw [← htmF] at this
            simpa using this
          · have hil : i < l.length := by rw [hlen]; simpa using hi
            have hp : l[i]? = some l[i] := List.getElem?_eq_getElem hil
            have e : ((l.map (·.2)).getD i (0, .nil)).2 = l[i].2.2 := by simp [List.getD, hp]
            rw [e, hfr i l[i] hp]
            have tk : ∀ {β : Type} (m : List β) (j : Nat) (x : β), (m.take i)[j]? = some x → m[0 + j]? = some x := by
              intro β m j x hx
              rw [List.getElem?_take] at hx
              split at hx
              · simpa using hx
              · cases hx
            have := done_fold (tm0 := tm) htm.small uniq lt l (ops.toList.take i) (l.take i) 0 tm (tk _) (tk _) (by simp [hlen]) (done_start ops _ tm _ (by intro i hi; omega))
            have e2 : (ops.toList.zip l).take i = (ops.toList.take i).zip (l.take i) := by simp [List.zip, List.take_zipWith]
            rw [e2]
            have e3 : 0 + (ops.toList.take i).length = i := by simp; omega
            rw [e3] at this
            exact this
        refine wp_region_any (by simpa using hm) ?_
        refine draw_any hcf hR C (Q := Q) (hF := hF) σ a.defers (fun m hm h1 _ => ?_) (fun σ' w' a' k1 k2 k3 k4 => hQ σ' w' a' k1 (k2.sameTr rfl) k3 k4) ops.size _ a _ σ tm [] s.h ?_ (by simp) ?_ (done_start ops _ tm _ ?_) htm rfl (Sig.le_refl _) C.nil ?_ rfl (hrep.drew.sameTr rfl)
        · have hmm := List.all_eq_true.1 hlst m hm
          have hcon : (ws.all fun i => m.contains i) = true := by
            refine List.all_eq_true.2 fun i hi => ?_
            have := (C.ws i).1 hi
            have := h1 i this.1 this.2
            simpa using this
          simp only [hcon, Bool.not_true, Bool.false_or, beq_iff_eq] at hmm
          rw [hmm]
          exact hfin
        · unfold unl; simp
        · intro i j hi
          unfold Lst at hi
          simp only [Array.getD_eq_getD_getElem?, Array.getElem?_replicate] at hi
          split at hi <;> simp at hi
        · intro i hi
          unfold Lst at hi
          simp only [Array.getD_eq_getD_getElem?, Array.getElem?_replicate] at hi
          split at hi <;> simp at hi
        · intro i
          constructor
          · intro hh; cases hh
          · rintro ⟨hi, _⟩
            unfold Lst at hi
            simp only [Array.getD_eq_getD_getElem?, Array.getElem?_replicate] at hi
            split at hi <;> simp at hi
      · cases h
    · cases h
  · cases h

inductive Ex where
  | normal
  | exit (id : Nat)
  | ret

def Ex.to : Ex → Exit
  | .normal => .normal
  | .exit id => .exit id
  | .ret => .ret

abbrev Res := Option (Ex × Fr × AS)

def evLoop (body : Fr → AS → Res) : Nat → Fr → AS → Res
  | 0, _, _ => none
  | n + 1, tm, s =>
    match body tm s with
    | some (.normal, tm', s') => evLoop body n tm' s'
    | r => r

/-- The number of the first region of a text: by it a loop is known. -/
def loopId : Code → Option Nat
  | .region id _ _ => some id
  | .seq x y => match loopId x with
    | some i => some i
    | none => loopId y
  | .cond _ x y => match loopId x with
    | some i => some i
    | none => loopId y
  | .block _ c => loopId c
  | .loop c => loopId c
  | .scope c => loopId c
  | _ => none
/-- The loops of a text, by their rounds. -/
def loopsOf : Code → List Code
  | .seq x y => loopsOf x ++ loopsOf y
  | .cond _ x y => loopsOf x ++ loopsOf y
  | .block _ c => loopsOf c
  | .loop c => c :: loopsOf c
  | .scope c => loopsOf c
  | _ => []
abbrev LoopF := Nat → Fr → AS → Res

def evCode (P : Program) (R : Facts) (cf : CallF) (lf : LoopF) (n N : Nat) : Code → Fr → AS → Res
  | .skip, tm, s => some (.normal, tm, s)
  | .region _ ops false, tm, s => match evOpers P R cf ops N ops.toList tm s with
    | some (tm', s') => some (.normal, tm', s')
    | none => none
  | .region _ ops true, tm, s => match evDraw P R cf ops N tm s with
    | some (tm', s') => some (.normal, tm', s')
    | none => none
  | .seq x y, tm, s => match evCode P R cf lf n N x tm s with
    | some (.normal, tm', s') => evCode P R cf lf n N y tm' s'
    | r => r
  | .cond c x y, tm, s => match evO tm c with
    | some (.bool true) => evCode P R cf lf n N x tm s
    | some (.bool false) => evCode P R cf lf n N y tm s
    | _ => none
  | .block id c, tm, s => match evCode P R cf lf n N c tm s with
    | some (.exit id', tm', s') => if id' = id then some (.normal, tm', s') else some (.exit id', tm', s')
    | r => r
  | .loop c, tm, s => match loopId c with
    | some id => match lf id tm s with
      | some r => some r
      | none => evLoop (evCode P R cf lf n N c) n tm s
    | none => evLoop (evCode P R cf lf n N c) n tm s
  | .exit id, tm, s => some (.exit id, tm, s)
  | .ret, tm, s => some (.ret, tm, s)
  | .scope c, tm, s => evCode P R cf lf n N c tm s
  | _, _, _ => none

theorem noGoto_of {Q : Exit → Act → World → Prop} {e : Ex} {a : Act} {w : World} (h : Q e.to a w) : Exit.noGoto Q e.to a w := by
  cases e <;> exact h

theorem then_of {Q : Exit → Act → World → Prop} {K : Act → World → Prop} {e : Ex} (he : e ≠ .normal) {a : Act} {w : World} (h : Q e.to a w) : Exit.then K Q e.to a w := by
  cases e with
  | normal => exact absurd rfl he
  | exit id => exact h
  | ret => exact h

theorem evLoop_ok {body : Fr → AS → Res} {c : Code} {Q : Exit → Act → World → Prop}
    (hb : ∀ (tm : Fr) (s : AS) (σ : Sig) (w : World) (a : Act) (e : Ex) (tm' : Fr) (s' : AS) (Q : Exit → Act → World → Prop), body tm s = some (e, tm', s') → Rep F A w0 σ w s → FR F σ N tm a.tmps → a.defers = [] →
      (∀ σ' w' a', σ.le σ' → Rep F A w0 σ' w' s' → FR F σ' N tm' a'.tmps → a'.defers = [] → Q e.to a' w') → c.wp P Q a w) :
    ∀ (n : Nat) (tm : Fr) (s : AS) (σ : Sig) (w : World) (a : Act) (e : Ex) (tm' : Fr) (s' : AS), evLoop body n tm s = some (e, tm', s') → Rep F A w0 σ w s → FR F σ N tm a.tmps → a.defers = [] →
      (∀ σ' w' a', σ.le σ' → Rep F A w0 σ' w' s' → FR F σ' N tm' a'.tmps → a'.defers = [] → Q e.to a' w') → e ≠ .normal ∧ Code.rounds P c Q n a w
  | 0, tm, s, σ, w, a, e, tm', s', h, _, _, _, _ => by cases h
  | n + 1, tm, s, σ, w, a, e, tm', s', h, hrep, htm, hd, hQ => by
    simp only [evLoop] at h
    split at h
    · rename_i tm1 s1 hbody
      have hn : e ≠ .normal := by
        have : ∀ (n : Nat) (tm : Fr) (s : AS), evLoop body n tm s = some (e, tm', s') → e ≠ .normal := by
          intro n
          induction n with
          | zero => intro tm s h; cases h
          | succ n ih =>
            intro tm s h
            simp only [evLoop] at h
            split at h
            · exact ih _ _ h
            · rename_i r hr
              rintro rfl
              exact hr _ _ h
        exact this n tm1 s1 h
      refine ⟨hn, ?_⟩
      rw [rounds_succ]
      refine hb tm s σ w a .normal tm1 s1 _ hbody hrep htm hd fun σ' w' a' k1 k2 k3 k4 => ?_
      exact (evLoop_ok hb n tm1 s1 σ' w' a' e tm' s' h k2 k3 k4 fun σ'' w'' a'' j1 j2 j3 j4 => hQ σ'' w'' a'' (Sig.le_trans k1 j1) j2 j3 j4).2
    · rename_i r hr
      have hn : e ≠ .normal := by rintro rfl; exact hr _ _ h
      refine ⟨hn, ?_⟩
      rw [rounds_succ]
      exact hb tm s σ w a e tm' s' _ h hrep htm hd fun σ' w' a' k1 k2 k3 k4 => then_of hn (hQ σ' w' a' k1 k2 k3 k4)

/-- What a table of loops says of one is so. -/
def LoopFits (F : Fix S) (A : Nat → Prop) (w0 : World) (P : Program) (N : Nat) (lf : LoopF) (c : Code) : Prop :=
  ∀ id, loopId c = some id → ∀ (tm : Fr) (s : AS) (e : Ex) (tm' : Fr) (s' : AS), lf id tm s = some (e, tm', s') → ∀ (σ : Sig) (w : World) (a : Act) (Q : Exit → Act → World → Prop), Rep F A w0 σ w s → FR F σ N tm a.tmps → a.defers = [] →
    (∀ σ' w' a', σ.le σ' → Rep F A w0 σ' w' s' → FR F σ' N tm' a'.tmps → a'.defers = [] → Q e.to a' w') → (Code.loop c).wp P Q a w

theorem evCode_ok (hcf : CallOK F A w0 P cf) (hR : FOK F R) {lf : LoopF} (n : Nat) : ∀ (c : Code), (∀ x ∈ loopsOf c, LoopFits F A w0 P N lf x) → ∀ (tm : Fr) (s : AS) (σ : Sig) (w : World) (a : Act) (e : Ex) (tm' : Fr) (s' : AS) (Q : Exit → Act → World → Prop),
    evCode P R cf lf n N c tm s = some (e, tm', s') → Rep F A w0 σ w s → FR F σ N tm a.tmps → a.defers = [] →
    (∀ σ' w' a', σ.le σ' → Rep F A w0 σ' w' s' → FR F σ' N tm' a'.tmps → a'.defers = [] → Q e.to a' w') → c.wp P Q a w := by
  intro c
  induction c with
  | skip =>
    intro _ tm s σ w a e tm' s' Q h hrep htm hd hQ
    simp only [evCode, Option.some.injEq, Prod.mk.injEq] at h
    obtain ⟨rfl, rfl, rfl⟩ := h
    exact wp_skip (hQ σ w a (Sig.le_refl _) hrep htm hd)
  | region id ops draw =>
    intro _ tm s σ w a e tm' s' Q h hrep htm hd hQ
    cases draw with
    | false =>
      simp only [evCode] at h
      split at h
      · rename_i tm1 s1 ho
        simp only [Option.some.injEq, Prod.mk.injEq] at h
        obtain ⟨rfl, rfl, rfl⟩ := h
        exact wp_region_list (evOpers_ok hcf hR _ _ _ σ w a ho hrep htm fun σ' w' a' k1 k2 k3 k4 => hQ σ' w' a' k1 k2 k3 (k4.trans hd))
      · cases h
    | true =>
      simp only [evCode] at h
      split at h
      · rename_i tm1 s1 ho
        simp only [Option.some.injEq, Prod.mk.injEq] at h
        obtain ⟨rfl, rfl, rfl⟩ := h
        exact evDraw_ok hcf hR ho hrep htm fun σ' w' a' k1 k2 k3 k4 => hQ σ' w' a' k1 k2 k3 (k4.trans hd)
      · cases h
  | seq x y ihx ihy =>
    intro hlf tm s σ w a e tm' s' Q h hrep htm hd hQ
    simp only [evCode] at h
    split at h
    · rename_i tm1 s1 hx
      refine wp_seq (ihx (fun z hz => hlf z (by simp only [loopsOf, List.mem_append]; exact .inl hz)) tm s σ w a .normal tm1 s1 _ hx hrep htm hd fun σ' w' a' k1 k2 k3 k4 => ?_)
      exact ihy (fun z hz => hlf z (by simp only [loopsOf, List.mem_append]; exact .inr hz)) tm1 s1 σ' w' a' e tm' s' Q h k2 k3 k4 fun σ'' w'' a'' j1 j2 j3 j4 => hQ σ'' w'' a'' (Sig.le_trans k1 j1) j2 j3 j4
    · rename_i r hr
      have hn : e ≠ .normal := by rintro rfl; exact hr _ _ h
      exact wp_seq (ihx (fun z hz => hlf z (by simp only [loopsOf, List.mem_append]; exact .inl hz)) tm s σ w a e tm' s' _ h hrep htm hd fun σ' w' a' k1 k2 k3 k4 => then_of hn (hQ σ' w' a' k1 k2 k3 k4))
  | cond cd x y ihx ihy =>
    intro hlf tm s σ w a e tm' s' Q h hrep htm hd hQ
    simp only [evCode] at h
    split at h
    · rename_i hc
      have hv := evO_ok (F := F) (σ := σ) htm hc
      simp only [VR] at hv
      exact wp_cond_true hv (ihx (fun z hz => hlf z (by simp only [loopsOf, List.mem_append]; exact .inl hz)) tm s σ w a e tm' s' Q h hrep htm hd hQ)
    · rename_i hc
      have hv := evO_ok (F := F) (σ := σ) htm hc
      simp only [VR] at hv
      exact wp_cond_false hv (ihy (fun z hz => hlf z (by simp only [loopsOf, List.mem_append]; exact .inr hz)) tm s σ w a e tm' s' Q h hrep htm hd hQ)
    · cases h
  | block id x ih =>
    intro hlf tm s σ w a e tm' s' Q h hrep htm hd hQ
    simp only [evCode] at h
    split at h
    · rename_i id' tm1 s1 hx
      refine wp_block (ih (fun z hz => hlf z (by simpa only [loopsOf] using hz)) tm s σ w a (.exit id') tm1 s1 _ hx hrep htm hd fun σ' w' a' k1 k2 k3 k4 => ?_)
      simp only [Ex.to, Exit.inBlock]
      split at h
      · rename_i he
        simp only [Option.some.injEq, Prod.mk.injEq] at h
        obtain ⟨rfl, rfl, rfl⟩ := h
        rw [if_pos he]
        exact hQ σ' w' a' k1 k2 k3 k4
      · rename_i he
        simp only [Option.some.injEq, Prod.mk.injEq] at h
        obtain ⟨rfl, rfl, rfl⟩ := h
        rw [if_neg he]
        exact hQ σ' w' a' k1 k2 k3 k4
    · rename_i r hr
      refine wp_block (ih (fun z hz => hlf z (by simpa only [loopsOf] using hz)) tm s σ w a e tm' s' _ h hrep htm hd fun σ' w' a' k1 k2 k3 k4 => ?_)
      cases e with
      | exit id' => exact absurd h (hr id' _ _)
      | normal => exact hQ σ' w' a' k1 k2 k3 k4
      | ret => exact hQ σ' w' a' k1 k2 k3 k4
  | loop x ih =>
    intro hlf tm s σ w a e tm' s' Q h hrep htm hd hQ
    simp only [evCode] at h
    have rounds : evLoop (evCode P R cf lf n N x) n tm s = some (e, tm', s') → (Code.loop x).wp P Q a w := fun h =>
      wp_loop_rounds n (evLoop_ok (fun tm s σ w a e tm' s' Q => ih (fun z hz => hlf z (by simp only [loopsOf, List.mem_cons]; exact .inr hz)) tm s σ w a e tm' s' Q) n tm s σ w a e tm' s' h hrep htm hd hQ).2
    split at h
    · rename_i id hid
      split at h
      · rename_i r hr
        simp only [Option.some.injEq] at h
        subst h
        exact hlf x (by simp only [loopsOf]; exact List.mem_cons_self ..) id hid tm s e tm' s' hr σ w a Q hrep htm hd hQ
      · exact rounds h
    · exact rounds h
  | exit id =>
    intro _ tm s σ w a e tm' s' Q h hrep htm hd hQ
    simp only [evCode, Option.some.injEq, Prod.mk.injEq] at h
    obtain ⟨rfl, rfl, rfl⟩ := h
    exact wp_exit (hQ σ w a (Sig.le_refl _) hrep htm hd)
  | ret =>
    intro _ tm s σ w a e tm' s' Q h hrep htm hd hQ
    simp only [evCode, Option.some.injEq, Prod.mk.injEq] at h
    obtain ⟨rfl, rfl, rfl⟩ := h
    exact wp_ret (hQ σ w a (Sig.le_refl _) hrep htm hd)
  | scope x ih =>
    intro hlf tm s σ w a e tm' s' Q h hrep htm hd hQ
    simp only [evCode] at h
    exact wp_scope_straight (ih (fun z hz => hlf z (by simpa only [loopsOf] using hz)) tm s σ w a e tm' s' _ h hrep htm hd fun σ' w' a' k1 k2 k3 k4 => noGoto_of (hQ σ' w' a' k1 k2 k3 k4))
  | rangeFunc f p as b ih1 ih2 => intro _ tm s σ w a e tm' s' Q h; cases h
  | label l => intro _ tm s σ w a e tm' s' Q h; cases h
  | goto l => intro _ tm s σ w a e tm' s' Q h; cases h
  | refuse y => intro _ tm s σ w a e tm' s' Q h; cases h
end
end
end Go.Sy
