/- Maps and their iterators: the evaluator's and the model's agree. Conditions: the named integers lie in the ranges that were told. -/
import Derived.Test.YtmmigmalblephaaGreatDoorEv7
namespace Go.Sx
open Go.RowKit
noncomputable section

def evMakeMap (s : AS) : Option (AV × AS) :=
  match s.new (.map [] 0) with
  | some (id, s') => some (.map id, s')
  | none => none

def giveLk (ok : Bool) (z : AV) (r : Option (Nat × AV)) : AV :=
  match r with
  | some (_, v) => if ok then .tup [v, .bool true] else v
  | none => if ok then .tup [z, .bool false] else z

def evLookup (P : Program) (R : Ranges) (s : AS) (t : TypeId) (m k : AV) (ok : Bool) : Option AV :=
  match P.underlying t with
  | some (.map kt et) =>
    match P.underlying kt with
    | some kd =>
      if plainKey kd then
        match zeroT P et with
        | some z =>
          match m with
          | .nilmap => some (giveLk ok z none)
          | .map id =>
            match s.get id with
            | some (.map es _) => match findK R kd k es 0 with
              | some r => some (giveLk ok z r)
              | none => none
            | _ => none
          | _ => none
        | none => none
      else none
    | none => none
  | _ => none

def setAt (k v : AV) : List (AV × AV × Nat) → Nat → List (AV × AV × Nat)
  | [], _ => []
  | (_, _, n) :: es, 0 => (k, v, n) :: es
  | e :: es, i + 1 => e :: setAt k v es i

def evMapUpdate (P : Program) (R : Ranges) (s : AS) (t : TypeId) (m k v : AV) : Option AS :=
  match P.underlying t with
  | some (.map kt _) =>
    match P.underlying kt with
    | some kd =>
      if plainKey kd then
        match m with
        | .map id =>
          match s.get id with
          | some (.map es c) => match findK R kd k es 0 with
            | some (some (i, _)) => s.put id (.map (setAt k v es i) c)
            | some none => s.put id (.map (es ++ [(k, v, c)]) (c + 1))
            | none => none
          | _ => none
        | _ => none
      else none
    | none => none
  | _ => none

def evDelete (P : Program) (R : Ranges) (s : AS) (t : TypeId) (m k : AV) : Option AS :=
  match P.underlying t with
  | some (.map kt _) =>
    match P.underlying kt with
    | some kd =>
      if plainKey kd then
        match m with
        | .nilmap => some s
        | .map id =>
          match s.get id with
          | some (.map es c) => match findK R kd k es 0 with
            | some (some (i, _)) => s.put id (.map (es.eraseIdx i) c)
            | some none => s.put id (.map es c)
            | none => none
          | _ => none
        | _ => none
      else none
    | none => none
  | _ => none

def evRange (P : Program) (s : AS) (t : TypeId) (x : AV) : Option (AV × AS) :=
  match P.underlying t, x with
  | some .string, .str b => match s.new (.striter b 0) with
    | some (id, s') => some (.ptr id 0, s')
    | none => none
  | some (.map _ _), .nilmap => match s.new (.mapiter none 0 [] 0) with
    | some (id, s') => some (.ptr id 0, s')
    | none => none
  | some (.map _ _), .map m =>
    match s.get m with
    | some (.map _ c) => match s.new (.mapiter (some m) c [] c) with
      | some (id, s') => some (.ptr id 0, s')
      | none => none
    | _ => none
  | _, _ => none

def evNext (s : AS) (x : AV) (isString : Bool) : Option (AV × AS) :=
  match x, isString with
  | .ptr id 0, false =>
    match s.get id with
    | some (.mapiter none _ _ _) => some (.tup [.bool false], s)
    | some (.mapiter (some m) since seen last) =>
      match s.get m with
      | some (.map es c) =>
        if !seen.isEmpty && !es.isEmpty && es.all (fun e => decide (e.2.2 ≥ last)) then none else
        let left := es.filter fun e => !seen.contains e.2.2
        let old := left.filter (fun e => decide (e.2.2 < since))
        let new := left.filter (fun e => decide (e.2.2 ≥ since))
        match old, new with
        | [], [] => some (.tup [.bool false], s)
        | [(k, v, n)], [] => match s.put id (.mapiter (some m) since (seen ++ [n]) c) with
          | some s' => some (.tup [.bool true, k, v], s')
          | none => none
        | _, _ => none
      | _ => none
    | _ => none
  | _, _ => none

def findBorn (n : Nat) : List (AV × AV × Nat) → Option (AV × AV)
  | [] => none
  | (k, v, m) :: es => if m = n then some (k, v) else findBorn n es

def evEntry (s : AS) (x : AV) : Option AV :=
  match x with
  | .ptr id 0 =>
    match s.get id with
    | some (.mapiter (some m) _ seen stepped) =>
      match seen.getLast?, s.get m with
      | some n, some (.map es c) =>
        if c = stepped then match findBorn n es with
          | some (k, v) => some (.tup [k, v])
          | none => none
        else none
      | _, _ => none
    | _ => none
  | _ => none

section
variable {F : Fix} {B : Nat} {w0 : World} {σ : Sig} {w : World} {s : AS} {P : Program} {R : Ranges}

theorem ERs.length : ∀ {es : List (AV × AV × Nat)} {l : List MapEntry}, ERs F σ es l → l.length = es.length
  | [], _, h => by simp only [ERs] at h; simp [h]
  | (k, v, n) :: xs, _, h => by
    simp only [ERs] at h
    obtain ⟨y, ys, _, _, _, h4, rfl⟩ := h
    simp [ERs.length h4]

theorem ERs.append : ∀ {a b : List (AV × AV × Nat)} {l m : List MapEntry}, ERs F σ a l → ERs F σ b m → ERs F σ (a ++ b) (l ++ m)
  | [], _, _, _, h, h2 => by simp only [ERs] at h; subst h; simpa using h2
  | (k, v, n) :: xs, b, _, m, h, h2 => by
    simp only [ERs, List.cons_append] at h ⊢
    obtain ⟨y, ys, h1, h2', h3, h4, rfl⟩ := h
    exact ⟨y, ys ++ m, h1, h2', h3, ERs.append h4 h2, rfl⟩

theorem run_getMap (h : Rep F B w0 σ w s) {id b κ : Nat} {es : List (AV × AV × Nat)} {c : Nat} (ho : s.get id = some (.map es c)) (hb : σ id = some (b, κ)) :
    ∃ l, ERs F σ es l ∧ w.heap[b]? = some (.map l.toArray c) ∧ (getObj b).run P w = .ok (.map l.toArray c) w := by
  obtain ⟨b2, κ2, hb2, hlive⟩ := h.obj id _ ho
  rw [hb] at hb2
  simp only [Option.some.injEq, Prod.mk.injEq] at hb2
  obtain ⟨rfl, rfl⟩ := hb2
  obtain ⟨ob, hob, l, hr, rfl⟩ := hlive rfl
  exact ⟨l, hr, hob, by simp [getObj, Sem.run, hob]⟩

theorem keyEq_ok (hR : RangeOK F R) {kd : TypeDesc} {a b : AV} {r : Bool} (h : keyEq R kd a b = some r) {va vb : Value} (ha : VR F σ a va) (hb : VR F σ b vb) : Instr.sameNow kd va vb = some r := by
  unfold keyEq at h
  split at h
  · split at h
    · rename_i hk
      subst hk
      simp only [VR] at ha hb
      subst ha hb
      have := cmpSI_ok hR h (default : Program) default
      simp only [Op.intCmp, Sem.run_pure, Result.ok.injEq, Value.bool.injEq, and_true] at this
      simp [Instr.sameNow, this]
    · cases h
  · simp only [Option.some.injEq] at h
    subst h
    simp only [VR] at ha hb
    subst ha hb
    simp only [Instr.sameNow]
    rw [beq_toListBytes, bytes_beq']
  · simp only [Option.some.injEq] at h
    subst h
    simp only [VR] at ha hb
    subst ha hb
    rfl
  · cases h

theorem findK_ok (hR : RangeOK F R) {kd : TypeDesc} {k : AV} {vk : Value} (hk : VR F σ k vk) : ∀ {es : List (AV × AV × Nat)} {l : List MapEntry} (i : Nat) {r : Option (Nat × AV)}, ERs F σ es l → findK R kd k es i = some r →
    (r = none ∧ Instr.findNow kd vk l i = some none) ∨ ∃ j v y, r = some (i + j, v) ∧ l[j]? = some y ∧ VR F σ v y.val ∧ Instr.findNow kd vk l i = some (some (i + j, y.val)) ∧ Instr.sameNow kd vk y.key = some true
  | [], _, i, r, h, hf => by
    simp only [ERs] at h
    subst h
    simp only [findK, Option.some.injEq] at hf
    exact .inl ⟨hf.symm, rfl⟩
  | (k', v, n) :: es, _, i, r, h, hf => by
    simp only [ERs] at h
    obtain ⟨y, ys, h1, h2, h3, h4, rfl⟩ := h
    simp only [findK] at hf
    split at hf
    · rename_i he
      simp only [Option.some.injEq] at hf
      have hs := keyEq_ok hR he hk h1
      exact .inr ⟨0, v, y, hf.symm, rfl, h2, by simp [Instr.findNow, hs], hs⟩
    · rename_i he
      have hs := keyEq_ok hR he hk h1
      rcases findK_ok hR hk (i + 1) h4 hf with ⟨e1, e2⟩ | ⟨j, v', y', e1, e2, e3, e4, e5⟩
      · exact .inl ⟨e1, by simp [Instr.findNow, hs, e2]⟩
      · refine .inr ⟨j + 1, v', y', by rw [e1]; congr 2; omega, by simpa using e2, e3, ?_, e5⟩
        simp only [Instr.findNow, hs, e4]
        congr 3
        omega
    · cases hf

theorem run_checkKey {kt : TypeId} {kd : TypeDesc} (hk : P.underlying kt = some kd) (hp : plainKey kd = true) (b : Bool) (v : Value) (w : World) : (Instr.checkKey b 10000 kt v).run P w = .ok () w := by
  have : ∀ d, (Instr.checkKey b (d + 1) kt v).run P w = .ok () w := by
    intro d
    cases kd <;> simp [plainKey] at hp <;> cases v <;> simp [Instr.checkKey, run_underlying hk]
  exact this 9999

theorem run_findKey {kt : TypeId} {kd : TypeDesc} (hk : P.underlying kt = some kd) {v : Value} {l : List MapEntry} {r : Option (Nat × Value)} (h : Instr.findNow kd v l 0 = some r) (w : World) :
    (Instr.findKey kt v l).run P w = .ok r w := by
  simp [Instr.findKey, run_underlying hk, h]

theorem makeMap_ok (h : Rep F B w0 σ w s) {t : TypeId} {r : AV} {s' : AS} (he : evMakeMap s = some (r, s')) :
    ∃ σ' w' rv, (Instr.makeMap t none).run P w = .ok rv w' ∧ VR F σ' r rv ∧ σ.le σ' ∧ Rep F B w0 σ' w' s' := by
  unfold evMakeMap at he
  split at he
  · rename_i id s1 hn
    simp only [Option.some.injEq, Prod.mk.injEq] at he
    obtain ⟨rfl, rfl⟩ := he
    obtain ⟨h1, h2⟩ := h.new hn rfl (κ := 0) (ob := .map #[] 0) ⟨[], by simp [ERs], rfl⟩
    refine ⟨_, _, .map (some w.heap.size), by simp [Instr.makeMap], ?_, h1, h2⟩
    simp only [VR]
    exact ⟨_, _, Sig.upd_same _ _ _, rfl⟩
  · cases he

theorem lookup_ok (hR : RangeOK F R) (h : Rep F B w0 σ w s) {t : TypeId} {m k r : AV} {ok : Bool} (he : evLookup P R s t m k ok = some r) {vm vk : Value} (hm : VR F σ m vm) (hk : VR F σ k vk) :
    ∃ rv, (Instr.lookup t vm vk ok).run P w = .ok rv w ∧ VR F σ r rv := by
  unfold evLookup at he
  split at he
  · rename_i kt et hu
    split at he
    · rename_i kd hkd
      split at he
      · rename_i hp
        split at he
        · rename_i z hz
          obtain ⟨zv, hzr, hzv⟩ := run_zeroT (F := F) (σ := σ) hz w
          split at he
          · simp only [Option.some.injEq] at he
            subst he
            simp only [VR] at hm
            subst hm
            have hf : (Instr.findKey kt vk []).run P w = .ok none w := run_findKey hkd rfl w
            cases ok
            · exact ⟨zv, by simp [Instr.lookup, run_underlying hu, run_checkKey hkd hp, hf, hzr], by simpa [giveLk] using hzv⟩
            · refine ⟨.tuple #[zv, .bool false], by simp [Instr.lookup, run_underlying hu, run_checkKey hkd hp, hf, hzr], ?_⟩
              simp only [giveLk, VR, VRs, if_true]
              exact ⟨[zv, .bool false], ⟨_, _, hzv, ⟨_, _, rfl, rfl, rfl⟩, rfl⟩, rfl⟩
          · rename_i id
            split at he
            · rename_i es c ho
              split at he
              · rename_i r' hfk
                simp only [Option.some.injEq] at he
                subst he
                simp only [VR] at hm
                obtain ⟨b, κ, hb, rfl⟩ := hm
                obtain ⟨l, hl, _, hg⟩ := run_getMap (P := P) h ho hb
                rcases findK_ok hR hk 0 hl hfk with ⟨rfl, e2⟩ | ⟨j, v', y', rfl, e2, e3, e4, e5⟩
                · have hf := run_findKey (P := P) hkd e2 w
                  cases ok
                  · exact ⟨zv, by simp [Instr.lookup, run_underlying hu, hg, run_checkKey hkd hp, hf, hzr], by simpa [giveLk] using hzv⟩
                  · refine ⟨.tuple #[zv, .bool false], by simp [Instr.lookup, run_underlying hu, hg, run_checkKey hkd hp, hf, hzr], ?_⟩
                    simp only [giveLk, VR, VRs, if_true]
                    exact ⟨[zv, .bool false], ⟨_, _, hzv, ⟨_, _, rfl, rfl, rfl⟩, rfl⟩, rfl⟩
                · have hf := run_findKey (P := P) hkd e4 w
                  cases ok
                  · exact ⟨y'.val, by simp [Instr.lookup, run_underlying hu, hg, run_checkKey hkd hp, hf], by simpa [giveLk] using e3⟩
                  · refine ⟨.tuple #[y'.val, .bool true], by simp [Instr.lookup, run_underlying hu, hg, run_checkKey hkd hp, hf], ?_⟩
                    simp only [giveLk, VR, VRs, if_true]
                    exact ⟨[y'.val, .bool true], ⟨_, _, e3, ⟨_, _, rfl, rfl, rfl⟩, rfl⟩, rfl⟩
              · cases he
            · cases he
          · cases he
        · cases he
      · cases he
    · cases he
  · cases he

theorem run_setObj {b : Nat} {ob ob' : Obj} (hb : w.heap[b]? = some ob) (hn : ∀ c e f, ob ≠ .cells c e f) : (setObj b ob').run P w = .ok () { w with heap := w.heap.setIfInBounds b ob' } := by
  cases ob with
  | cells c e f => exact absurd rfl (hn c e f)
  | _ => simp only [setObj, Sem.run, hb]

theorem setAt_ok {k v : AV} {vk vv : Value} (hk : VR F σ k vk) (hv : VR F σ v vv) : ∀ {es : List (AV × AV × Nat)} {l : List MapEntry} (i : Nat), ERs F σ es l →
    ERs F σ (setAt k v es i) (l.modify i fun e => { e with key := vk, val := vv })
  | [], _, i, h => by simp only [ERs] at h; subst h; simp [setAt, ERs]
  | (k', v', n) :: es, _, i, h => by
    simp only [ERs] at h
    obtain ⟨y, ys, h1, h2, h3, h4, rfl⟩ := h
    cases i with
    | zero => simp only [setAt, List.modify_zero_cons, ERs]; exact ⟨{ y with key := vk, val := vv }, ys, hk, hv, h3, h4, rfl⟩
    | succ i => simp only [setAt, List.modify_succ_cons, ERs]; exact ⟨y, _, h1, h2, h3, setAt_ok hk hv i h4, rfl⟩

theorem sameNow_bits {kd : TypeDesc} {a b : Value} (h : Instr.sameNow kd a b = some true) : Instr.sameBits 10000 b a = true := by
  cases kd <;> cases a <;> cases b <;> simp_all [Instr.sameNow, Instr.sameBits]
  rw [beq_toListBytes, beq_iff_eq] at h ⊢
  exact h.symm

theorem mapUpdate_ok (hR : RangeOK F R) (h : Rep F B w0 σ w s) {t : TypeId} {m k v : AV} {s' : AS} (he : evMapUpdate P R s t m k v = some s') {vm vk vv : Value} (hm : VR F σ m vm) (hk : VR F σ k vk) (hv : VR F σ v vv) :
    ∃ w', (Instr.mapUpdate t vm vk vv).run P w = .ok () w' ∧ Rep F B w0 σ w' s' := by
  unfold evMapUpdate at he
  split at he
  · rename_i kt et hu
    split at he
    · rename_i kd hkd
      split at he
      · rename_i hp
        split at he
        · rename_i id
          split at he
          · rename_i es c ho
            simp only [VR] at hm
            obtain ⟨b, κ, hb, rfl⟩ := hm
            obtain ⟨l, hl, hob, hg⟩ := run_getMap (P := P) h ho hb
            split at he
            · rename_i i v0 hfk
              rcases findK_ok hR hk 0 hl hfk with ⟨e1, e2⟩ | ⟨j, v', y', e1, e2, e3, e4, e5⟩
              · cases e1
              · simp only [Option.some.injEq, Prod.mk.injEq] at e1
                obtain ⟨rfl, rfl⟩ := e1
                have hf := run_findKey (P := P) hkd e4 w
                have hky : (Instr.keyThatStays y'.key vk).run P w = .ok vk w := by simp [Instr.keyThatStays, sameNow_bits e5]
                have hgd : ((l.toArray[0 + j]?).map (·.key)).getD vk = y'.key := by simp [e2]
                have hrun := run_setObj (P := P) (ob' := .map (l.toArray.modify (0 + j) fun e => { e with key := vk, val := vv }) c) hob (by intro _ _ _ e; cases e)
                refine ⟨_, ?_, h.put ho rfl he rfl hb (Upd.setObj (ob := .map (l.toArray.modify (0 + j) fun e => { e with key := vk, val := vv }) c) hob) ⟨l.modify (0 + j) fun e => { e with key := vk, val := vv }, setAt_ok hk hv (0 + j) hl, by simp⟩⟩
                simp only [Instr.mapUpdate, Sem.run_bind, run_underlying hu, Result.andThen_ok, hg, run_checkKey hkd hp, hf, hgd, hky, hrun]
            · rename_i hfk
              rcases findK_ok hR hk 0 hl hfk with ⟨e1, e2⟩ | ⟨j, v', y', e1, e2, e3, e4, e5⟩
              · have hf := run_findKey (P := P) hkd e2 w
                have hrun := run_setObj (P := P) (ob' := .map (l.toArray.push { key := vk, val := vv, born := c }) (c + 1)) hob (by intro _ _ _ e; cases e)
                refine ⟨_, ?_, h.put ho rfl he rfl hb (Upd.setObj (ob := .map (l.toArray.push { key := vk, val := vv, born := c }) (c + 1)) hob) ⟨l ++ [{ key := vk, val := vv, born := c }], hl.append ?_, by simp⟩⟩
                · simp only [Instr.mapUpdate, Sem.run_bind, run_underlying hu, Result.andThen_ok, hg, run_checkKey hkd hp, hf, hrun]
                · simp only [ERs]
                  exact ⟨_, [], hk, hv, rfl, rfl, rfl⟩
              · cases e1
            · cases he
          · cases he
        · cases he
      · cases he
    · cases he
  · cases he

theorem eraseIdx_ok : ∀ {es : List (AV × AV × Nat)} {l : List MapEntry} (i : Nat), ERs F σ es l → ERs F σ (es.eraseIdx i) (l.eraseIdx i)
  | [], _, i, h => by simp only [ERs] at h; subst h; simp [ERs]
  | (k', v', n) :: es, _, i, h => by
    simp only [ERs] at h
    obtain ⟨y, ys, h1, h2, h3, h4, rfl⟩ := h
    cases i with
    | zero => simpa using h4
    | succ i => simp only [List.eraseIdx_cons_succ, ERs]; exact ⟨y, _, h1, h2, h3, eraseIdx_ok i h4, rfl⟩

theorem delete_ok (hR : RangeOK F R) (h : Rep F B w0 σ w s) {t t2 ty : TypeId} {m k : AV} {s' : AS} (he : evDelete P R s t m k = some s') {vm vk : Value} (hm : VR F σ m vm) (hk : VR F σ k vk) :
    ∃ w', (Builtin.delete_ #[t, t2] ty #[vm, vk]).run P w = .ok (.tuple #[]) w' ∧ Rep F B w0 σ w' s' := by
  unfold evDelete at he
  split at he
  · rename_i kt et hu
    split at he
    · rename_i kd hkd
      split at he
      · rename_i hp
        split at he
        · simp only [Option.some.injEq] at he
          subst he
          simp only [VR] at hm
          subst hm
          exact ⟨w, by simp [Builtin.delete_, run_underlying hu, run_checkKey hkd hp], h⟩
        · rename_i id
          split at he
          · rename_i es c ho
            simp only [VR] at hm
            obtain ⟨b, κ, hb, rfl⟩ := hm
            obtain ⟨l, hl, hob, hg⟩ := run_getMap (P := P) h ho hb
            split at he
            · rename_i i v0 hfk
              rcases findK_ok hR hk 0 hl hfk with ⟨e1, e2⟩ | ⟨j, v', y', e1, e2, e3, e4, e5⟩
              · cases e1
              · simp only [Option.some.injEq, Prod.mk.injEq] at e1
                obtain ⟨rfl, rfl⟩ := e1
                have hf := run_findKey (P := P) hkd e4 w
                have hrun := run_setObj (P := P) (ob' := .map (l.toArray.eraseIdxIfInBounds (0 + j)) c) hob (by intro _ _ _ e; cases e)
                refine ⟨_, ?_, h.put ho rfl he rfl hb (Upd.setObj (ob := .map (l.toArray.eraseIdxIfInBounds (0 + j)) c) hob) ⟨l.eraseIdx (0 + j), eraseIdx_ok (0 + j) hl, by simp⟩⟩
                simp only [List.eraseIdxIfInBounds_toArray] at hrun
                simp [Builtin.delete_, run_underlying hu, hg, run_checkKey hkd hp, hf]
                simp only [Nat.zero_add] at hrun
                rw [hrun]
                rfl
            · rename_i hfk
              rcases findK_ok hR hk 0 hl hfk with ⟨e1, e2⟩ | ⟨j, v', y', e1, e2, e3, e4, e5⟩
              · have hf := run_findKey (P := P) hkd e2 w
                have hrun := run_setObj (P := P) (ob' := .map l.toArray c) hob (by intro _ _ _ e; cases e)
                refine ⟨_, ?_, h.put ho rfl he rfl hb (Upd.setObj (ob := .map l.toArray c) hob) ⟨l, hl, by simp⟩⟩
                simp [Builtin.delete_, run_underlying hu, hg, run_checkKey hkd hp, hf, hrun]
              · cases e1
            · cases he
          · cases he
        · cases he
      · cases he
    · cases he
  · cases he
end
end
end Go.Sx
