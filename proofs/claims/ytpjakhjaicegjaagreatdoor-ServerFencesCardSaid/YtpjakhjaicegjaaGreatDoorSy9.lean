/- Iterators over maps: the evaluator's and the model's agree (at most one entry is left to come). Conditions: none. -/
import Derived.Test.YtpjakhjaicegjaaGreatDoorSy8
namespace Go.Sy
open Go.RowKit
variable {S : Sg}
noncomputable section

section
variable {F : Fix S} {A : Nat → Prop} {w0 : World} {σ : Sig} {w : World} {s : AS} {P : Program}

theorem range_ok (h : Rep F A w0 σ w s) {t : TypeId} {x r : AV} {s' : AS} (he : evRange P s t x = some (r, s')) {v : Value} (hx : VR F σ x v) :
    ∃ σ' w' rv, (Instr.range t v).run P w = .ok rv w' ∧ VR F σ' r rv ∧ σ.le σ' ∧ Rep F A w0 σ' w' s' := by
  unfold evRange at he
  split at he
  · rename_i b hu
    split at he
    · rename_i id s1 hn
      simp only [Option.some.injEq, Prod.mk.injEq] at he
      obtain ⟨rfl, rfl⟩ := he
      simp only [VR] at hx
      subst hx
      obtain ⟨h1, h2⟩ := h.new hn rfl (κ := 0) (ob := .stringIter (bytesOf b) 0) rfl
      refine ⟨_, _, .pointer (some ⟨w.heap.size, 0, none⟩), by simp [Instr.range, run_underlying hu], ?_, h1, h2⟩
      simp only [VR]
      exact ⟨_, _, Sig.upd_same _ _ _, rfl⟩
    · cases he
  · rename_i k e hu
    split at he
    · rename_i id s1 hn
      simp only [Option.some.injEq, Prod.mk.injEq] at he
      obtain ⟨rfl, rfl⟩ := he
      simp only [VR] at hx
      subst hx
      obtain ⟨h1, h2⟩ := h.new hn rfl (κ := 0) (ob := .mapIter none 0 #[] 0) ⟨none, rfl, rfl⟩
      refine ⟨_, _, .pointer (some ⟨w.heap.size, 0, none⟩), by simp [Instr.range, run_underlying hu], ?_, h1, h2⟩
      simp only [VR]
      exact ⟨_, _, Sig.upd_same _ _ _, rfl⟩
    · cases he
  · rename_i k e m hu
    split at he
    · rename_i es c ho
      split at he
      · rename_i id s1 hn
        simp only [Option.some.injEq, Prod.mk.injEq] at he
        obtain ⟨rfl, rfl⟩ := he
        simp only [VR] at hx
        obtain ⟨b, κ, hb, rfl⟩ := hx
        obtain ⟨l, hl, hob, hg⟩ := run_getMap (P := P) h ho hb
        have hle0 := Sig.le_upd (w.heap.size, 0) (h.fresh _ (AS.get_new hn).1)
        obtain ⟨h1, h2⟩ := h.new hn rfl (κ := 0) (ob := .mapIter (some b) c #[] c) ⟨some b, ⟨b, κ, hle0 _ _ hb, rfl⟩, rfl⟩
        refine ⟨_, _, .pointer (some ⟨w.heap.size, 0, none⟩), by simp [Instr.range, run_underlying hu, hg], ?_, h1, h2⟩
        simp only [VR]
        exact ⟨_, _, Sig.upd_same _ _ _, rfl⟩
      · cases he
    · cases he
  · cases he

theorem ERs.filter (p : Nat → Bool) : ∀ {es : List (AV × AV × Nat)} {l : List MapEntry}, ERs F σ es l → ERs F σ (es.filter fun e => p e.2.2) (l.filter fun e => p e.born)
  | [], _, h => by simp only [ERs] at h; subst h; simp [ERs]
  | (k, v, n) :: es, _, h => by
    simp only [ERs] at h
    obtain ⟨y, ys, h1, h2, h3, h4, rfl⟩ := h
    simp only [List.filter_cons, h3]
    split
    · simp only [ERs]; exact ⟨y, _, h1, h2, h3, h4.filter p, rfl⟩
    · exact h4.filter p

theorem ERs.all (p : Nat → Bool) : ∀ {es : List (AV × AV × Nat)} {l : List MapEntry}, ERs F σ es l → (l.all fun e => p e.born) = es.all fun e => p e.2.2
  | [], _, h => by simp only [ERs] at h; subst h; rfl
  | (k, v, n) :: es, _, h => by
    simp only [ERs] at h
    obtain ⟨y, ys, h1, h2, h3, h4, rfl⟩ := h
    simp only [List.all_cons, h3, h4.all p]

theorem next_ok (h : Rep F A w0 σ w s) {t : TypeId} {x r : AV} {isS : Bool} {s' : AS} (he : evNext s x isS = some (r, s')) {v : Value} (hx : VR F σ x v) :
    ∃ w' rv, (Instr.next v isS t).run P w = .ok rv w' ∧ VR F σ r rv ∧ Rep F A w0 σ w' s' := by
  unfold evNext at he
  split at he
  · rename_i id
    simp only [VR] at hx
    obtain ⟨b, κ, hb, rfl⟩ := hx
    split at he
    · rename_i si se st ho
      simp only [Option.some.injEq, Prod.mk.injEq] at he
      obtain ⟨rfl, rfl⟩ := he
      obtain ⟨b2, κ2, hb2, hlive⟩ := h.obj id _ ho
      rw [hb] at hb2
      simp only [Option.some.injEq, Prod.mk.injEq] at hb2
      obtain ⟨rfl, rfl⟩ := hb2
      obtain ⟨ob, hob, mb, hm, rfl⟩ := hlive rfl
      simp only [IR] at hm
      subst hm
      have hg : (getObj b).run P w = .ok (.mapIter none si se.toArray st) w := by simp [getObj, Sem.run, hob]
      refine ⟨w, .tuple #[.bool false], by simp [Instr.next, hg], ?_, h⟩
      simp only [VR, VRs]
      exact ⟨[.bool false], ⟨_, [], rfl, rfl, rfl⟩, rfl⟩
    · rename_i m since seen last ho
      split at he
      · rename_i es c hom
        obtain ⟨b2, κ2, hb2, hlive⟩ := h.obj id _ ho
        rw [hb] at hb2
        simp only [Option.some.injEq, Prod.mk.injEq] at hb2
        obtain ⟨rfl, rfl⟩ := hb2
        obtain ⟨ob, hob, mb, hm, rfl⟩ := hlive rfl
        simp only [IR] at hm
        obtain ⟨bm, κm, hbm, rfl⟩ := hm
        obtain ⟨l, hl, hobm, hgm⟩ := run_getMap (P := P) h hom hbm
        have hg : (getObj b).run P w = .ok (.mapIter (some bm) since seen.toArray last) w := by simp [getObj, Sem.run, hob]
        have hall : (l.all fun e => decide (e.born ≥ last)) = es.all fun e => decide (e.2.2 ≥ last) := hl.all (fun n => decide (n ≥ last))
        have hemp : l.isEmpty = es.isEmpty := by
          have := hl.length
          cases l <;> cases es <;> simp_all
        have hleft := hl.filter (fun n => !seen.contains n)
        have hold := hleft.filter (fun n => decide (n < since))
        have hnew := hleft.filter (fun n => decide (n ≥ since))
        split at he
        · cases he
        · rename_i hcond
          have hcond' : ¬ ((!seen.isEmpty && !l.isEmpty && l.all fun e => decide (e.born ≥ last)) = true) := by rw [hemp, hall]; simpa using hcond
          generalize hL : l.filter (fun e => !seen.contains e.born) = L at *
          generalize hO : L.filter (fun e => decide (e.born < since)) = O at *
          generalize hN : L.filter (fun e => decide (e.born ≥ since)) = N at *
          have e1 : (l.toArray.filter fun e => !seen.toArray.contains e.born) = L.toArray := by
            rw [← hL]; simp
          have e2 : (L.toArray.filter fun e => decide (e.born < since)) = O.toArray := by rw [← hO]; simp
          have e3 : (L.toArray.filter fun e => decide (e.born ≥ since)) = N.toArray := by rw [← hN]; simp
          have hc2 : (!seen.toArray.isEmpty && !l.toArray.isEmpty && l.toArray.all fun e => decide (e.born ≥ last)) = false := by
            have := Bool.eq_false_iff.2 hcond'
            simpa using this
          simp only [] at he
          split at he
          · rename_i ho' hn'
            simp only [Option.some.injEq, Prod.mk.injEq] at he
            obtain ⟨rfl, rfl⟩ := he
            rw [ho'] at hold
            rw [hn'] at hnew
            simp only [ERs] at hold hnew
            subst hold hnew
            refine ⟨w, .tuple #[.bool false], ?_, ?_, h⟩
            · simp only [Instr.next, Sem.run_bind, hg, Result.andThen_ok, hgm, hc2, Bool.false_eq_true, if_false, e1, e2, e3]
              simp [Question.forced]
            · simp only [VR, VRs]
              exact ⟨[.bool false], ⟨_, [], rfl, rfl, rfl⟩, rfl⟩
          · rename_i k v n ho' hn'
            split at he
            · rename_i s1 hp
              simp only [Option.some.injEq, Prod.mk.injEq] at he
              obtain ⟨rfl, rfl⟩ := he
              rw [ho'] at hold
              rw [hn'] at hnew
              simp only [ERs] at hold hnew
              subst hnew
              obtain ⟨y, ys, h1, h2, h3, rfl, rfl⟩ := hold
              have hrun := run_setObj (P := P) (ob' := .mapIter (some bm) since (seen.toArray.push y.born) c) hob (by intro _ _ _ e; cases e)
              refine ⟨_, .tuple #[.bool true, y.key, y.val], ?_, ?_, h.put ho rfl rfl hp rfl hb (Upd.setObj (ob := .mapIter (some bm) since (seen.toArray.push y.born) c) hob) ⟨some bm, ⟨bm, κm, hbm, rfl⟩, by simp [h3]⟩⟩
              · simp only [Instr.next, Sem.run_bind, hg, Result.andThen_ok, hgm, hc2, Bool.false_eq_true, if_false, e1, e2, e3]
                simp only [List.push_toArray] at hrun
                simp [Question.forced, hrun]
              · simp only [VR, VRs]
                exact ⟨[.bool true, y.key, y.val], ⟨_, _, rfl, ⟨_, _, h1, ⟨_, _, h2, rfl, rfl⟩, rfl⟩, rfl⟩, rfl⟩
            · cases he
          · cases he
      · cases he
    · cases he
  · cases he

theorem findBorn_ok (n : Nat) : ∀ {es : List (AV × AV × Nat)} {l : List MapEntry} {k v : AV}, ERs F σ es l → findBorn n es = some (k, v) → ∃ y, (l.find? fun e => e.born == n) = some y ∧ VR F σ k y.key ∧ VR F σ v y.val
  | [], _, k, v, h, hf => by cases hf
  | (k', v', m) :: es, _, k, v, h, hf => by
    simp only [ERs] at h
    obtain ⟨y, ys, h1, h2, h3, h4, rfl⟩ := h
    simp only [findBorn] at hf
    split at hf
    · rename_i hm
      simp only [Option.some.injEq, Prod.mk.injEq] at hf
      obtain ⟨rfl, rfl⟩ := hf
      exact ⟨y, by simp [h3, hm], h1, h2⟩
    · rename_i hm
      obtain ⟨z, hz, hr⟩ := findBorn_ok n h4 hf
      exact ⟨z, by simp [h3, hm, hz], hr⟩

theorem entry_ok (h : Rep F A w0 σ w s) {x r : AV} (he : evEntry s x = some r) {v : Value} (hx : VR F σ x v) :
    ∃ rv, (Instr.entry v).run P w = .ok rv w ∧ VR F σ r rv := by
  unfold evEntry at he
  split at he
  · rename_i id
    simp only [VR] at hx
    obtain ⟨b, κ, hb, rfl⟩ := hx
    split at he
    · rename_i m since seen stepped ho
      split at he
      · rename_i n es c hlast hom
        split at he
        · rename_i hc
          subst hc
          split at he
          · rename_i k v hf
            simp only [Option.some.injEq] at he
            subst he
            obtain ⟨b2, κ2, hb2, hlive⟩ := h.obj id _ ho
            rw [hb] at hb2
            simp only [Option.some.injEq, Prod.mk.injEq] at hb2
            obtain ⟨rfl, rfl⟩ := hb2
            obtain ⟨ob, hob, mb, hm, rfl⟩ := hlive rfl
            simp only [IR] at hm
            obtain ⟨bm, κm, hbm, rfl⟩ := hm
            obtain ⟨l, hl, hobm, hgm⟩ := run_getMap (P := P) h hom hbm
            have hg : (getObj b).run P w = .ok (.mapIter (some bm) since seen.toArray c) w := by simp [getObj, Sem.run, hob]
            obtain ⟨y, hy, h1, h2⟩ := findBorn_ok n hl hf
            have hback : seen.toArray.back? = some n := by simpa using hlast
            refine ⟨.tuple #[y.key, y.val], ?_, ?_⟩
            · simp [Instr.entry, hg, hback, hgm, hy]
            · simp only [VR, VRs]
              exact ⟨[y.key, y.val], ⟨_, _, h1, ⟨_, _, h2, rfl, rfl⟩, rfl⟩, rfl⟩
          · cases he
        · cases he
      · cases he
    · cases he
  · cases he
end
end
end Go.Sy
