/- Maps and their iterators: the evaluator's and the model's agree. Conditions: the named integers lie in the ranges that were told. -/
import Derived.Test.YtpjakhjaicegjaaGreatDoorSy7
namespace Go.Sy
open Go.RowKit
variable {S : Sg}
noncomputable section

def evMakeMap (s : AS) : Option (AV × AS) :=
  match s.new (.map [] 0) with
  | some (id, s') => some (.map id, s')
  | none => none

def giveLk (ok : Bool) (z : AV) (r : Option (Nat × AV)) : AV :=
  match r with
  | some (_, v) => if ok then .tup [v, .bool true] else v
  | none => if ok then .tup [z, .bool false] else z

def evLookup (P : Program) (R : Facts) (s : AS) (t : TypeId) (m k : AV) (ok : Bool) : Option AV :=
  match P.underlying t with
  | some (.map kt et) =>
    match P.underlying kt with
    | some kd =>
      if keyOK P kt kd k then
        match zeroT P et with
        | some z =>
          match m with
          | .nilmap => some (giveLk ok z none)
          | .map id =>
            match s.get id with
            | some (.map es _) => match findK P R kd k es 0 with
              | some r => some (giveLk ok z r)
              | none => none
            | _ => none
          | _ => none
        | none => none
      else none
    | none => none
  | _ => none

def setAt (k v : AV) : List (AV × AV × Nat) → Nat → List (AV × AV × Nat)
  | [], _ => []
  | (_, _, n) :: es, 0 => (k, v, n) :: es
  | e :: es, i + 1 => e :: setAt k v es i

def evMapUpdate (P : Program) (R : Facts) (s : AS) (t : TypeId) (m k v : AV) : Option AS :=
  match P.underlying t with
  | some (.map kt _) =>
    match P.underlying kt with
    | some kd =>
      if keyOK P kt kd k then
        match m with
        | .map id =>
          match s.get id with
          | some (.map es c) => match findK P R kd k es 0 with
            | some (some (i, _)) => s.put id (.map (setAt k v es i) c)
            | some none => s.put id (.map (es ++ [(k, v, c)]) (c + 1))
            | none => none
          | _ => none
        | _ => none
      else none
    | none => none
  | _ => none

def evDelete (P : Program) (R : Facts) (s : AS) (t : TypeId) (m k : AV) : Option AS :=
  match P.underlying t with
  | some (.map kt _) =>
    match P.underlying kt with
    | some kd =>
      if keyOK P kt kd k then
        match m with
        | .nilmap => some s
        | .map id =>
          match s.get id with
          | some (.map es c) => match findK P R kd k es 0 with
            | some (some (i, _)) => s.put id (.map (es.eraseIdx i) c)
            | some none => s.put id (.map es c)
            | none => none
          | _ => none
        | _ => none
      else none
    | none => none
  | _ => none

def evRange (P : Program) (s : AS) (t : TypeId) (x : AV) : Option (AV × AS) :=
  match P.underlying t, x with
  | some .string, .str b => match s.new (.striter b 0) with
    | some (id, s') => some (.ptr id 0, s')
    | none => none
  | some (.map _ _), .nilmap => match s.new (.mapiter none 0 [] 0) with
    | some (id, s') => some (.ptr id 0, s')
    | none => none
  | some (.map _ _), .map m =>
    match s.get m with
    | some (.map _ c) => match s.new (.mapiter (some m) c [] c) with
      | some (id, s') => some (.ptr id 0, s')
      | none => none
    | _ => none
  | _, _ => none

def evNext (s : AS) (x : AV) (isString : Bool) : Option (AV × AS) :=
  match x, isString with
  | .ptr id 0, false =>
    match s.get id with
    | some (.mapiter none _ _ _) => some (.tup [.bool false], s)
    | some (.mapiter (some m) since seen last) =>
      match s.get m with
      | some (.map es c) =>
        if !seen.isEmpty && !es.isEmpty && es.all (fun e => decide (e.2.2 ≥ last)) then none else
        let left := es.filter fun e => !seen.contains e.2.2
        let old := left.filter (fun e => decide (e.2.2 < since))
        let new := left.filter (fun e => decide (e.2.2 ≥ since))
        match old, new with
        | [], [] => some (.tup [.bool false], s)
        | [(k, v, n)], [] => match s.put id (.mapiter (some m) since (seen ++ [n]) c) with
          | some s' => some (.tup [.bool true, k, v], s')
          | none => none
        | _, _ => none
      | _ => none
    | _ => none
  | _, _ => none

def findBorn (n : Nat) : List (AV × AV × Nat) → Option (AV × AV)
  | [] => none
  | (k, v, m) :: es => if m = n then some (k, v) else findBorn n es

def evEntry (s : AS) (x : AV) : Option AV :=
  match x with
  | .ptr id 0 =>
    match s.get id with
    | some (.mapiter (some m) _ seen stepped) =>
      match seen.getLast?, s.get m with
      | some n, some (.map es c) =>
        if c = stepped then match findBorn n es with
          | some (k, v) => some (.tup [k, v])
          | none => none
        else none
      | _, _ => none
    | _ => none
  | _ => none

section
variable {F : Fix S} {A : Nat → Prop} {w0 : World} {σ : Sig} {w : World} {s : AS} {P : Program} {R : Facts}

theorem ERs.length : ∀ {es : List (AV × AV × Nat)} {l : List MapEntry}, ERs F σ es l → l.length = es.length
  | [], _, h => by simp only [ERs] at h; simp [h]
  | (k, v, n) :: xs, _, h => by
    simp only [ERs] at h
    obtain ⟨y, ys, _, _, _, h4, rfl⟩ := h
    simp [ERs.length h4]

theorem ERs.append : ∀ {a b : List (AV × AV × Nat)} {l m : List MapEntry}, ERs F σ a l → ERs F σ b m → ERs F σ (a ++ b) (l ++ m)
  | [], _, _, _, h, h2 => by simp only [ERs] at h; subst h; simpa using h2
  | (k, v, n) :: xs, b, _, m, h, h2 => by
    simp only [ERs, List.cons_append] at h ⊢
    obtain ⟨y, ys, h1, h2', h3, h4, rfl⟩ := h
    exact ⟨y, ys ++ m, h1, h2', h3, ERs.append h4 h2, rfl⟩

theorem run_getMap (h : Rep F A w0 σ w s) {id b κ : Nat} {es : List (AV × AV × Nat)} {c : Nat} (ho : s.get id = some (.map es c)) (hb : σ id = some (b, κ)) :
    ∃ l, ERs F σ es l ∧ w.heap[b]? = some (.map l.toArray c) ∧ (getObj b).run P w = .ok (.map l.toArray c) w := by
  obtain ⟨b2, κ2, hb2, hlive⟩ := h.obj id _ ho
  rw [hb] at hb2
  simp only [Option.some.injEq, Prod.mk.injEq] at hb2
  obtain ⟨rfl, rfl⟩ := hb2
  obtain ⟨ob, hob, l, hr, rfl⟩ := hlive rfl
  exact ⟨l, hr, hob, by simp [getObj, Sem.run, hob]⟩

theorem bits_refl {v : Value} (n : Nat) (h : (∃ b, v = .bool b) ∨ (∃ k i, v = .int k i) ∨ ∃ s, v = .string s) : Instr.sameBits n v v = true := by
  rcases h with ⟨b, rfl⟩ | ⟨k, i, rfl⟩ | ⟨s, rfl⟩ <;> cases n <;> simp [Instr.sameBits] <;> rw [beq_toListBytes] <;> simp

/-- Scalars that are told to be the same are one value. -/
theorem scalarEq_val {t : TypeId} {x y : AV} {r : Tm} (h : scalarEqT P t x y = some r) (hb : (r.val F).b = true) {vx vy : Value} (hx : VR F σ x vx) (hy : VR F σ y vy) : vx = vy ∧ ((∃ b, vx = .bool b) ∨ (∃ k i, vx = .int k i) ∨ ∃ s, vx = .string s) := by
  have e : ∀ a b : List UInt8, (a == b) = true → (Value.string (bytesOf a)) = .string (bytesOf b) := fun a b h => by rw [eq_of_beq h]
  unfold scalarEqT at h
  split at h
  case h_9 => cases h
  all_goals
    simp only [VR] at hx hy
    subst hx hy
    split at h
    · (try split at h) <;> first
        | (cases h; done)
        | (simp only [Option.some.injEq] at h
           subst h
           refine ⟨?_, ?_⟩
           · first
               | (rename_i hk _; subst hk; simp only [Tm.val, Dat.b_bool, decide_eq_true_eq] at hb; rw [hb])
               | (rename_i hk; subst hk; simp only [Tm.val, Dat.b_bool, decide_eq_true_eq] at hb; rw [hb])
               | (simp only [Tm.val, Dat.b_bool] at hb; exact e _ _ hb)
               | (simp only [Tm.val, Dat.b_bool] at hb; rw [eq_of_beq hb])
               | (simp_all [Tm.val])
           · first
               | exact .inl ⟨_, rfl⟩
               | exact .inr (.inl ⟨_, _, rfl⟩)
               | exact .inr (.inr ⟨_, rfl⟩))
    · cases h

theorem fieldsEq_val (hR : FOK F R) {xs ys : List AV} {vxs vys : List Value} (hx : VRs F σ xs vxs) (hy : VRs F σ ys vys) : ∀ (fs : List Field) (r : Tm), (∀ f ∈ fs, (f.name != "_") = true) → fieldsEqT P R xs ys fs = some r → (r.val F).b = true →
    ∀ f ∈ fs, ∃ v, vxs[f.offset]? = some v ∧ vys[f.offset]? = some v ∧ ((∃ b, v = .bool b) ∨ (∃ k i, v = .int k i) ∨ ∃ s, v = .string s)
  | [], r, _, _, _, f, hf => by cases hf
  | g :: fs, r, hn, h, hb, f, hf => by
    simp only [fieldsEqT] at h
    have hg := hn g (List.mem_cons_self ..)
    rw [if_pos (by simpa using hg)] at h
    split at h
    · rename_i a b hagg hxa hyb
      obtain ⟨va, hva, hra⟩ := hx.get _ _ hxa
      obtain ⟨vb, hvb, hrb⟩ := hy.get _ _ hyb
      split at h
      · rename_i t u he hu
        simp only [Option.some.injEq] at h
        subst h
        rw [mkAnd_ok hR, Bool.and_eq_true] at hb
        rcases List.mem_cons.1 hf with rfl | hf
        · obtain ⟨h1, h2⟩ := scalarEq_val he hb.1 hra hrb
          exact ⟨va, hva, by rw [h1]; exact hvb, h2⟩
        · exact fieldsEq_val hR hx hy fs u (fun f h => hn f (List.mem_cons_of_mem _ h)) hu hb.2 f hf
      · cases h
    · cases h

theorem structKey_parts {kt : TypeId} {fs : Array Field} (h : structKey P kt fs = true) : P.stoodInHeld kt = false ∧ (∀ f ∈ fs.toList, (f.name != "_") = true ∧ plainT P f.type = true) ∧ fs.toList.map (·.offset) = List.range fs.size := by
  simp only [structKey, Bool.and_eq_true, Bool.not_eq_true', beq_iff_eq, List.all_eq_true] at h
  exact ⟨h.1.1, fun f hf => by simpa using h.1.2 f hf, h.2⟩

theorem offset_lt {fs : Array Field} (h : fs.toList.map (·.offset) = List.range fs.size) (i : Nat) (hi : i < fs.size) : ∃ f ∈ fs.toList, f.offset = i := by
  have h1 : (fs.toList.map (·.offset))[i]? = some i := by rw [h, List.getElem?_range hi]
  rw [List.getElem?_map, Option.map_eq_some_iff] at h1
  obtain ⟨f, hf, he⟩ := h1
  exact ⟨f, List.mem_of_getElem? hf, he⟩

/-- What a comparison of two keys says. -/
theorem keyEq_ok (hR : FOK F R) {kt : TypeId} {kd : TypeDesc} (hkd : P.underlying kt = some kd) {a b : AV} {r : Bool} (h : keyEq P R kd a b = some r) (hok : keyOK P kt kd a = true) {va vb : Value} (ha : VR F σ a va) (hb : VR F σ b vb) :
    (plainKey kd = true → Instr.sameNow kd va vb = some r) ∧ ((∃ fs, kd = .struct fs) → ∀ w, (Op.equal kt va vb).run P w = .ok r w) ∧ (r = true → Instr.sameBits 10000 vb va = true) := by
  have scal : ∀ {r : Bool}, Instr.sameNow kd va vb = some r → plainKey kd = true → (plainKey kd = true → Instr.sameNow kd va vb = some r) ∧ ((∃ fs, kd = .struct fs) → ∀ w, (Op.equal kt va vb).run P w = .ok r w) ∧ (r = true → Instr.sameBits 10000 vb va = true) := by
    intro r hs hp
    refine ⟨fun _ => hs, fun ⟨fs, e⟩ => (by subst e; exact absurd hp (by simp [plainKey])), fun hr => ?_⟩
    subst hr
    cases kd <;> cases va <;> cases vb <;> simp_all [Instr.sameNow, Instr.sameBits]
    rw [beq_toListBytes, beq_iff_eq] at hs ⊢
    exact hs.symm
  unfold keyEq at h
  split at h
  · split at h
    · rename_i hk
      subst hk
      simp only [VR] at ha hb
      subst ha hb
      have := decB_ok hR _ h
      simp only [Tm.val, Dat.b_bool] at this
      refine scal ?_ rfl
      simp only [Instr.sameNow, if_true, ← this]
      congr 1
    · cases h
  · simp only [Option.some.injEq] at h
    subst h
    simp only [VR] at ha hb
    subst ha hb
    refine scal ?_ rfl
    simp only [Instr.sameNow]
    rw [beq_toListBytes, bytes_beq']
  · simp only [VR] at ha hb
    subst ha hb
    have := decB_ok hR _ h
    refine scal ?_ rfl
    simp only [Instr.sameNow]
    rw [beq_toListBytes, bytes_beq', ← this]; rfl
  · simp only [VR] at ha hb
    subst ha hb
    have := decB_ok hR _ h
    refine scal ?_ rfl
    simp only [Instr.sameNow]
    rw [beq_toListBytes, bytes_beq', ← this]; rfl
  · simp only [VR] at ha hb
    subst ha hb
    have := decB_ok hR _ h
    refine scal ?_ rfl
    simp only [Instr.sameNow]
    rw [beq_toListBytes, bytes_beq', ← this]; rfl
  · simp only [Option.some.injEq] at h
    subst h
    simp only [VR] at ha hb
    subst ha hb
    exact scal rfl rfl
  · rename_i fs xs ys
    split at h
    · rename_i hlen
      split at h
      · rename_i t ht
        have hbt := decB_ok hR t h
        simp only [keyOK, Bool.and_eq_true] at hok
        obtain ⟨k1, k2, k3⟩ := structKey_parts hok.1
        simp only [VR] at ha hb
        obtain ⟨l1, hl1, rfl⟩ := ha
        obtain ⟨l2, hl2, rfl⟩ := hb
        refine ⟨fun hp => (by cases hp), fun _ w => ?_, fun hr => ?_⟩
        · have hfo : P.fieldsOf kt = fs := by simp [Program.fieldsOf, hkd]
          have hst := run_equalIn_struct w 9999 kt l1.toArray l2.toArray (by rw [hfo]; exact hkd) k1
          rw [hfo] at hst
          have hf := fieldsEqT_ok (P := P) hR hl1 hl2 9998 w fs.toList t ht
          show (Op.equalIn 10000 kt _ _).run P w = _
          rw [hst, hf, hbt]
        · subst hr
          have hv := fieldsEq_val hR hl1 hl2 fs.toList t (fun f hf => (k2 f hf).1) ht hbt
          have n1 := hl1.length
          have n2 := hl2.length
          have heq : l1 = l2 := by
            apply List.ext_getElem?
            intro i
            by_cases hi : i < fs.size
            · obtain ⟨f, hf, rfl⟩ := offset_lt k3 i hi
              obtain ⟨v, h1, h2, _⟩ := hv f hf
              rw [h1, h2]
            · rw [List.getElem?_eq_none (by omega), List.getElem?_eq_none (by omega)]
          subst heq
          simp only [Instr.sameBits, beq_self_eq_true, Bool.true_and, List.all_eq_true]
          intro p hp
          obtain ⟨i, hi, he⟩ := List.getElem_of_mem hp
          simp only [List.length_zip, Nat.min_self] at hi
          simp only [List.getElem_zip] at he
          subst he
          have hi' : i < l1.length := by simpa using hi
          obtain ⟨f, hf, rfl⟩ := offset_lt k3 i (by omega)
          obtain ⟨v, h1, _, h3⟩ := hv f hf
          rw [List.getElem?_eq_getElem hi'] at h1
          simp only [Option.some.injEq] at h1
          have := bits_refl (v := v) 9999 h3
          rw [← h1] at this
          exact this
      · cases h
    · cases h
  · cases h

theorem run_findKey {kt : TypeId} {kd : TypeDesc} (hk : P.underlying kt = some kd) {v : Value} {l : List MapEntry} {r : Option (Nat × Value)} (h : Instr.findNow kd v l 0 = some r) (w : World) :
    (Instr.findKey kt v l).run P w = .ok r w := by
  simp [Instr.findKey, run_underlying hk, h]

/-- What is found, of plain keys. -/
theorem findNow_ok (hR : FOK F R) {kt : TypeId} {kd : TypeDesc} (hkd : P.underlying kt = some kd) (hp : plainKey kd = true) {k : AV} {vk : Value} (hok : keyOK P kt kd k = true) (hk : VR F σ k vk) : ∀ {es : List (AV × AV × Nat)} {l : List MapEntry} (i : Nat) {r : Option (Nat × AV)}, ERs F σ es l → findK P R kd k es i = some r →
    (r = none ∧ Instr.findNow kd vk l i = some none) ∨ ∃ j v y, r = some (i + j, v) ∧ l[j]? = some y ∧ VR F σ v y.val ∧ Instr.findNow kd vk l i = some (some (i + j, y.val)) ∧ Instr.sameBits 10000 y.key vk = true
  | [], _, i, r, h, hf => by
    simp only [ERs] at h
    subst h
    simp only [findK, Option.some.injEq] at hf
    exact .inl ⟨hf.symm, rfl⟩
  | (k', v, n) :: es, _, i, r, h, hf => by
    simp only [ERs] at h
    obtain ⟨y, ys, h1, h2, h3, h4, rfl⟩ := h
    simp only [findK] at hf
    split at hf
    · rename_i he
      simp only [Option.some.injEq] at hf
      obtain ⟨hs, _, hb⟩ := keyEq_ok hR hkd he hok hk h1
      exact .inr ⟨0, v, y, hf.symm, rfl, h2, by simp [Instr.findNow, hs hp], hb rfl⟩
    · rename_i he
      obtain ⟨hs, _, _⟩ := keyEq_ok hR hkd he hok hk h1
      rcases findNow_ok hR hkd hp hok hk (i + 1) h4 hf with ⟨e1, e2⟩ | ⟨j, v', y', e1, e2, e3, e4, e5⟩
      · exact .inl ⟨e1, by simp [Instr.findNow, hs hp, e2]⟩
      · refine .inr ⟨j + 1, v', y', by rw [e1]; congr 2; omega, by simpa using e2, e3, ?_, e5⟩
        simp only [Instr.findNow, hs hp, e4]
        congr 3
        omega
    · cases hf

/-- What is found, of keys that are structs. -/
theorem findAsk_ok (hR : FOK F R) {kt : TypeId} {fs : Array Field} (hkd : P.underlying kt = some (.struct fs)) {k : AV} {vk : Value} (hok : keyOK P kt (.struct fs) k = true) (hk : VR F σ k vk) : ∀ {es : List (AV × AV × Nat)} {l : List MapEntry} (i : Nat) {r : Option (Nat × AV)}, ERs F σ es l → findK P R (.struct fs) k es i = some r →
    (r = none ∧ ∀ w, (Instr.findAsking kt vk l i).run P w = .ok none w) ∨ ∃ j v y, r = some (i + j, v) ∧ l[j]? = some y ∧ VR F σ v y.val ∧ (∀ w, (Instr.findAsking kt vk l i).run P w = .ok (some (i + j, y.val)) w) ∧ Instr.sameBits 10000 y.key vk = true
  | [], _, i, r, h, hf => by
    simp only [ERs] at h
    subst h
    simp only [findK, Option.some.injEq] at hf
    exact .inl ⟨hf.symm, fun w => rfl⟩
  | (k', v, n) :: es, _, i, r, h, hf => by
    simp only [ERs] at h
    obtain ⟨y, ys, h1, h2, h3, h4, rfl⟩ := h
    simp only [findK] at hf
    split at hf
    · rename_i he
      simp only [Option.some.injEq] at hf
      obtain ⟨_, hs, hb⟩ := keyEq_ok hR hkd he hok hk h1
      exact .inr ⟨0, v, y, hf.symm, rfl, h2, fun w => by simp [Instr.findAsking, hs ⟨fs, rfl⟩ w], hb rfl⟩
    · rename_i he
      obtain ⟨_, hs, _⟩ := keyEq_ok hR hkd he hok hk h1
      rcases findAsk_ok hR hkd hok hk (i + 1) h4 hf with ⟨e1, e2⟩ | ⟨j, v', y', e1, e2, e3, e4, e5⟩
      · exact .inl ⟨e1, fun w => by simp [Instr.findAsking, hs ⟨fs, rfl⟩ w, e2 w]⟩
      · refine .inr ⟨j + 1, v', y', by rw [e1]; congr 2; omega, by simpa using e2, e3, fun w => ?_, e5⟩
        simp only [Instr.findAsking, Sem.run_bind, hs ⟨fs, rfl⟩ w, Result.andThen_ok, Bool.false_eq_true, if_false, e4 w]
        congr 3
        omega
    · cases hf

theorem keyOK_cases {kt : TypeId} {kd : TypeDesc} {k : AV} (h : keyOK P kt kd k = true) : plainKey kd = true ∨ ∃ fs xs, kd = .struct fs ∧ k = .agg xs ∧ structKey P kt fs = true ∧ xs.length = fs.size := by
  unfold keyOK at h
  split at h
  · rename_i fs xs
    simp only [Bool.and_eq_true, beq_iff_eq] at h
    exact .inr ⟨fs, xs, rfl, rfl, h.1, h.2⟩
  · exact .inl h

theorem findK_ok (hR : FOK F R) {kt : TypeId} {kd : TypeDesc} (hkd : P.underlying kt = some kd) {k : AV} {vk : Value} (hok : keyOK P kt kd k = true) (hk : VR F σ k vk) {es : List (AV × AV × Nat)} {l : List MapEntry} {r : Option (Nat × AV)} (he : ERs F σ es l) (hf : findK P R kd k es 0 = some r) :
    (r = none ∧ ∀ w, (Instr.findKey kt vk l).run P w = .ok none w) ∨ ∃ j v y, r = some (j, v) ∧ l[j]? = some y ∧ VR F σ v y.val ∧ (∀ w, (Instr.findKey kt vk l).run P w = .ok (some (j, y.val)) w) ∧ Instr.sameBits 10000 y.key vk = true := by
  rcases keyOK_cases hok with hp | ⟨fs, xs, rfl, rfl, hsk, hxl⟩
  · rcases findNow_ok hR hkd hp hok hk 0 he hf with ⟨e1, e2⟩ | ⟨j, v', y', e1, e2, e3, e4, e5⟩
    · exact .inl ⟨e1, fun w => run_findKey hkd e2 w⟩
    · rw [Nat.zero_add] at e1 e4
      exact .inr ⟨j, v', y', e1, e2, e3, fun w => run_findKey hkd e4 w, e5⟩
  · have hfk : ∀ w, (Instr.findKey kt vk l).run P w = (Instr.findAsking kt vk l 0).run P w := by
      intro w
      cases l with
      | nil => simp [Instr.findKey, run_underlying hkd, Instr.findNow, Instr.findAsking]
      | cons y ys => simp [Instr.findKey, run_underlying hkd, Instr.findNow, Instr.sameNow]
    rcases findAsk_ok hR hkd hok hk 0 he hf with ⟨e1, e2⟩ | ⟨j, v', y', e1, e2, e3, e4, e5⟩
    · exact .inl ⟨e1, fun w => by rw [hfk, e2 w]⟩
    · rw [Nat.zero_add] at e1
      exact .inr ⟨j, v', y', e1, e2, e3, fun w => by rw [hfk, e4 w, Nat.zero_add], e5⟩

theorem run_checkPlain {kt : TypeId} {kd : TypeDesc} (hk : P.underlying kt = some kd) (hp : plainKey kd = true) (b : Bool) (v : Value) (d : Nat) (w : World) : (Instr.checkKey b (d + 1) kt v).run P w = .ok () w := by
  cases kd <;> simp [plainKey] at hp <;> cases v <;> simp [Instr.checkKey, run_underlying hk]

theorem run_checkFields (b : Bool) (d : Nat) (cs : Array Value) (w : World) : ∀ (fs : List Field), (∀ f ∈ fs, (f.name != "_") = true ∧ plainT P f.type = true ∧ f.offset < cs.size) →
    (forIn fs PUnit.unit fun f (_ : PUnit) => (do
      if f.name ≠ "_" then
        Instr.checkKey b (d + 1) f.type (← part f.type cs f.offset)
      pure (ForInStep.yield PUnit.unit) : Sem (ForInStep PUnit))).run P w = .ok PUnit.unit w
  | [], _ => by simp
  | f :: fs, h => by
    obtain ⟨h1, h2, h3⟩ := h f (List.mem_cons_self ..)
    unfold plainT at h2
    split at h2
    · rename_i fd hfd
      have hagg : isAggT P f.type = some false := by unfold isAggT; rw [hfd]; cases fd <;> simp_all [plainKey]
      have hpart : (part f.type cs f.offset).run P w = .ok cs[f.offset] w := by
        simp [part, run_isAggT hagg, h3]
      have hck := run_checkPlain (P := P) hfd h2 b cs[f.offset] d w
      have hne : f.name ≠ "_" := by simpa using h1
      simp only [List.forIn_cons, Sem.run_bind, if_pos hne, hpart, Result.andThen_ok, hck, Sem.run_pure]
      exact run_checkFields b d cs w fs fun f hf => h f (List.mem_cons_of_mem _ hf)
    · cases h2

theorem run_checkKey {kt : TypeId} {kd : TypeDesc} (hk : P.underlying kt = some kd) {k : AV} (hp : keyOK P kt kd k = true) (b : Bool) {v : Value} (hv : VR F σ k v) (w : World) : (Instr.checkKey b 10000 kt v).run P w = .ok () w := by
  rcases keyOK_cases hp with hp | ⟨fs, xs, rfl, rfl, hsk, hxl⟩
  · exact run_checkPlain hk hp b v 9999 w
  · obtain ⟨_, k2, k3⟩ := structKey_parts hsk
    simp only [VR] at hv
    obtain ⟨l, hl, rfl⟩ := hv
    have hn := hl.length
    have hd : ∀ d, (Instr.checkKey b (d + 1 + 1) kt (.agg l.toArray)).run P w = .ok () w := by
      intro d
      have := run_checkFields (P := P) b d l.toArray w fs.toList fun f hf => by
        refine ⟨(k2 f hf).1, (k2 f hf).2, ?_⟩
        have : f.offset ∈ fs.toList.map (·.offset) := List.mem_map_of_mem hf
        rw [k3, List.mem_range] at this
        simp; omega
      generalize d + 1 = n at this ⊢
      simp only [Instr.checkKey, Sem.run_bind, run_underlying hk, Result.andThen_ok]
      rw [← Array.forIn_toList]
      have e2 : ∀ (M : Sem PUnit), M.run P w = .ok PUnit.unit w → ((M.run P w).andThen fun _ w' => (pure () : Sem Unit).run P w') = .ok () w := by
        intro M hM
        rw [hM]; rfl
      first
        | exact this
        | exact e2 _ this
        | (simp at this ⊢; rw [this]; rfl)
    exact hd 9998

theorem makeMap_ok (h : Rep F A w0 σ w s) {t : TypeId} {r : AV} {s' : AS} (he : evMakeMap s = some (r, s')) :
    ∃ σ' w' rv, (Instr.makeMap t none).run P w = .ok rv w' ∧ VR F σ' r rv ∧ σ.le σ' ∧ Rep F A w0 σ' w' s' := by
  unfold evMakeMap at he
  split at he
  · rename_i id s1 hn
    simp only [Option.some.injEq, Prod.mk.injEq] at he
    obtain ⟨rfl, rfl⟩ := he
    obtain ⟨h1, h2⟩ := h.new hn rfl (κ := 0) (ob := .map #[] 0) ⟨[], by simp [ERs], rfl⟩
    refine ⟨_, _, .map (some w.heap.size), by simp [Instr.makeMap], ?_, h1, h2⟩
    simp only [VR]
    exact ⟨_, _, Sig.upd_same _ _ _, rfl⟩
  · cases he

theorem lookup_ok (hR : FOK F R) (h : Rep F A w0 σ w s) {t : TypeId} {m k r : AV} {ok : Bool} (he : evLookup P R s t m k ok = some r) {vm vk : Value} (hm : VR F σ m vm) (hk : VR F σ k vk) :
    ∃ rv, (Instr.lookup t vm vk ok).run P w = .ok rv w ∧ VR F σ r rv := by
  unfold evLookup at he
  split at he
  · rename_i kt et hu
    split at he
    · rename_i kd hkd
      split at he
      · rename_i hp
        split at he
        · rename_i z hz
          obtain ⟨zv, hzr, hzv⟩ := run_zeroT (F := F) (σ := σ) hz w
          split at he
          · simp only [Option.some.injEq] at he
            subst he
            simp only [VR] at hm
            subst hm
            have hf : (Instr.findKey kt vk []).run P w = .ok none w := run_findKey hkd rfl w
            cases ok
            · exact ⟨zv, by simp [Instr.lookup, run_underlying hu, run_checkKey hkd hp _ hk, hf, hzr], by simpa [giveLk] using hzv⟩
            · refine ⟨.tuple #[zv, .bool false], by simp [Instr.lookup, run_underlying hu, run_checkKey hkd hp _ hk, hf, hzr], ?_⟩
              simp only [giveLk, VR, VRs, if_true]
              exact ⟨[zv, .bool false], ⟨_, _, hzv, ⟨_, _, rfl, rfl, rfl⟩, rfl⟩, rfl⟩
          · rename_i id
            split at he
            · rename_i es c ho
              split at he
              · rename_i r' hfk
                simp only [Option.some.injEq] at he
                subst he
                simp only [VR] at hm
                obtain ⟨b, κ, hb, rfl⟩ := hm
                obtain ⟨l, hl, _, hg⟩ := run_getMap (P := P) h ho hb
                rcases findK_ok hR hkd hp hk hl hfk with ⟨rfl, e2⟩ | ⟨j, v', y', rfl, e2, e3, e4, e5⟩
                · have hf := e2 w
                  cases ok
                  · exact ⟨zv, by simp [Instr.lookup, run_underlying hu, hg, run_checkKey hkd hp _ hk, hf, hzr], by simpa [giveLk] using hzv⟩
                  · refine ⟨.tuple #[zv, .bool false], by simp [Instr.lookup, run_underlying hu, hg, run_checkKey hkd hp _ hk, hf, hzr], ?_⟩
                    simp only [giveLk, VR, VRs, if_true]
                    exact ⟨[zv, .bool false], ⟨_, _, hzv, ⟨_, _, rfl, rfl, rfl⟩, rfl⟩, rfl⟩
                · have hf := e4 w
                  cases ok
                  · exact ⟨y'.val, by simp [Instr.lookup, run_underlying hu, hg, run_checkKey hkd hp _ hk, hf], by simpa [giveLk] using e3⟩
                  · refine ⟨.tuple #[y'.val, .bool true], by simp [Instr.lookup, run_underlying hu, hg, run_checkKey hkd hp _ hk, hf], ?_⟩
                    simp only [giveLk, VR, VRs, if_true]
                    exact ⟨[y'.val, .bool true], ⟨_, _, e3, ⟨_, _, rfl, rfl, rfl⟩, rfl⟩, rfl⟩
              · cases he
            · cases he
          · cases he
        · cases he
      · cases he
    · cases he
  · cases he

theorem run_setObj {b : Nat} {ob ob' : Obj} (hb : w.heap[b]? = some ob) (hn : ∀ c e f, ob ≠ .cells c e f) : (setObj b ob').run P w = .ok () { w with heap := w.heap.setIfInBounds b ob' } := by
  cases ob with
  | cells c e f => exact absurd rfl (hn c e f)
  | _ => simp only [setObj, Sem.run, hb]

theorem setAt_ok {k v : AV} {vk vv : Value} (hk : VR F σ k vk) (hv : VR F σ v vv) : ∀ {es : List (AV × AV × Nat)} {l : List MapEntry} (i : Nat), ERs F σ es l →
    ERs F σ (setAt k v es i) (l.modify i fun e => { e with key := vk, val := vv })
  | [], _, i, h => by simp only [ERs] at h; subst h; simp [setAt, ERs]
  | (k', v', n) :: es, _, i, h => by
    simp only [ERs] at h
    obtain ⟨y, ys, h1, h2, h3, h4, rfl⟩ := h
    cases i with
    | zero => simp only [setAt, List.modify_zero_cons, ERs]; exact ⟨{ y with key := vk, val := vv }, ys, hk, hv, h3, h4, rfl⟩
    | succ i => simp only [setAt, List.modify_succ_cons, ERs]; exact ⟨y, _, h1, h2, h3, setAt_ok hk hv i h4, rfl⟩

theorem mapUpdate_ok (hR : FOK F R) (h : Rep F A w0 σ w s) {t : TypeId} {m k v : AV} {s' : AS} (he : evMapUpdate P R s t m k v = some s') {vm vk vv : Value} (hm : VR F σ m vm) (hk : VR F σ k vk) (hv : VR F σ v vv) :
    ∃ w', (Instr.mapUpdate t vm vk vv).run P w = .ok () w' ∧ Rep F A w0 σ w' s' := by
  unfold evMapUpdate at he
  split at he
  · rename_i kt et hu
    split at he
    · rename_i kd hkd
      split at he
      · rename_i hp
        split at he
        · rename_i id
          split at he
          · rename_i es c ho
            simp only [VR] at hm
            obtain ⟨b, κ, hb, rfl⟩ := hm
            obtain ⟨l, hl, hob, hg⟩ := run_getMap (P := P) h ho hb
            split at he
            · rename_i i v0 hfk
              rcases findK_ok hR hkd hp hk hl hfk with ⟨e1, e2⟩ | ⟨j, v', y', e1, e2, e3, e4, e5⟩
              · cases e1
              · simp only [Option.some.injEq, Prod.mk.injEq] at e1
                obtain ⟨rfl, rfl⟩ := e1
                have hf := e4 w
                have hky : (Instr.keyThatStays y'.key vk).run P w = .ok vk w := by simp [Instr.keyThatStays, e5]
                have hgd : ((l.toArray[i]?).map (·.key)).getD vk = y'.key := by simp [e2]
                have hrun := run_setObj (P := P) (ob' := .map (l.toArray.modify i fun e => { e with key := vk, val := vv }) c) hob (by intro _ _ _ e; cases e)
                refine ⟨_, ?_, h.put ho rfl rfl he rfl hb (Upd.setObj (ob := .map (l.toArray.modify i fun e => { e with key := vk, val := vv }) c) hob) ⟨l.modify i fun e => { e with key := vk, val := vv }, setAt_ok hk hv i hl, by simp⟩⟩
                simp only [Instr.mapUpdate, Sem.run_bind, run_underlying hu, Result.andThen_ok, hg, run_checkKey hkd hp _ hk, hf, hgd, hky, hrun]
            · rename_i hfk
              rcases findK_ok hR hkd hp hk hl hfk with ⟨e1, e2⟩ | ⟨j, v', y', e1, e2, e3, e4, e5⟩
              · have hf := e2 w
                have hrun := run_setObj (P := P) (ob' := .map (l.toArray.push { key := vk, val := vv, born := c }) (c + 1)) hob (by intro _ _ _ e; cases e)
                refine ⟨_, ?_, h.put ho rfl rfl he rfl hb (Upd.setObj (ob := .map (l.toArray.push { key := vk, val := vv, born := c }) (c + 1)) hob) ⟨l ++ [{ key := vk, val := vv, born := c }], hl.append ?_, by simp⟩⟩
                · simp only [Instr.mapUpdate, Sem.run_bind, run_underlying hu, Result.andThen_ok, hg, run_checkKey hkd hp _ hk, hf, hrun]
                · simp only [ERs]
                  exact ⟨_, [], hk, hv, rfl, rfl, rfl⟩
              · cases e1
            · cases he
          · cases he
        · cases he
      · cases he
    · cases he
  · cases he

theorem eraseIdx_ok : ∀ {es : List (AV × AV × Nat)} {l : List MapEntry} (i : Nat), ERs F σ es l → ERs F σ (es.eraseIdx i) (l.eraseIdx i)
  | [], _, i, h => by simp only [ERs] at h; subst h; simp [ERs]
  | (k', v', n) :: es, _, i, h => by
    simp only [ERs] at h
    obtain ⟨y, ys, h1, h2, h3, h4, rfl⟩ := h
    cases i with
    | zero => simpa using h4
    | succ i => simp only [List.eraseIdx_cons_succ, ERs]; exact ⟨y, _, h1, h2, h3, eraseIdx_ok i h4, rfl⟩

theorem delete_ok (hR : FOK F R) (h : Rep F A w0 σ w s) {t t2 ty : TypeId} {m k : AV} {s' : AS} (he : evDelete P R s t m k = some s') {vm vk : Value} (hm : VR F σ m vm) (hk : VR F σ k vk) :
    ∃ w', (Builtin.delete_ #[t, t2] ty #[vm, vk]).run P w = .ok (.tuple #[]) w' ∧ Rep F A w0 σ w' s' := by
  unfold evDelete at he
  split at he
  · rename_i kt et hu
    split at he
    · rename_i kd hkd
      split at he
      · rename_i hp
        split at he
        · simp only [Option.some.injEq] at he
          subst he
          simp only [VR] at hm
          subst hm
          exact ⟨w, by simp [Builtin.delete_, run_underlying hu, run_checkKey hkd hp _ hk], h⟩
        · rename_i id
          split at he
          · rename_i es c ho
            simp only [VR] at hm
            obtain ⟨b, κ, hb, rfl⟩ := hm
            obtain ⟨l, hl, hob, hg⟩ := run_getMap (P := P) h ho hb
            split at he
            · rename_i i v0 hfk
              rcases findK_ok hR hkd hp hk hl hfk with ⟨e1, e2⟩ | ⟨j, v', y', e1, e2, e3, e4, e5⟩
              · cases e1
              · simp only [Option.some.injEq, Prod.mk.injEq] at e1
                obtain ⟨rfl, rfl⟩ := e1
                have hf := e4 w
                have hrun := run_setObj (P := P) (ob' := .map (l.toArray.eraseIdxIfInBounds i) c) hob (by intro _ _ _ e; cases e)
                refine ⟨_, ?_, h.put ho rfl rfl he rfl hb (Upd.setObj (ob := .map (l.toArray.eraseIdxIfInBounds i) c) hob) ⟨l.eraseIdx i, eraseIdx_ok i hl, by simp⟩⟩
                simp only [List.eraseIdxIfInBounds_toArray] at hrun
                simp [Builtin.delete_, run_underlying hu, hg, run_checkKey hkd hp _ hk, hf]
                rw [hrun]
                rfl
            · rename_i hfk
              rcases findK_ok hR hkd hp hk hl hfk with ⟨e1, e2⟩ | ⟨j, v', y', e1, e2, e3, e4, e5⟩
              · have hf := e2 w
                have hrun := run_setObj (P := P) (ob' := .map l.toArray c) hob (by intro _ _ _ e; cases e)
                refine ⟨_, ?_, h.put ho rfl rfl he rfl hb (Upd.setObj (ob := .map l.toArray c) hob) ⟨l, hl, by simp⟩⟩
                simp [Builtin.delete_, run_underlying hu, hg, run_checkKey hkd hp _ hk, hf, hrun]
              · cases e1
            · cases he
          · cases he
        · cases he
      · cases he
    · cases he
  · cases he
end
end
end Go.Sy
