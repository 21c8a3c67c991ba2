/- Slices that are built, made, appended to, cut: the evaluator's and the model's agree. Conditions: none. -/
import Derived.Test.YtpjakhjaicegjaaGreatDoorSy2
namespace Go.Sy
open Go.RowKit
variable {S : Sg}
noncomputable section

def evZeros (zc : List AV) (n : Nat) : List AV := (List.range n).map fun i => zc.getD (i % zc.length) (.tup [])

section
variable {F : Fix S} {A : Nat → Prop} {w0 : World} {σ : Sig} {w : World} {s : AS} {P : Program} {R : Facts}

theorem VRs.map_range {f : Nat → AV} {g : Nat → Value} : ∀ (n : Nat), (∀ i, i < n → VR F σ (f i) (g i)) → VRs F σ ((List.range n).map f) ((List.range n).map g)
  | 0, _ => by simp [VRs]
  | n + 1, h => by
    rw [List.range_succ, List.map_append, List.map_append]
    refine (VRs.map_range n fun i hi => h i (by omega)).append ?_
    simp only [List.map_cons, List.map_nil, VRs]
    exact ⟨_, [], h n (by omega), rfl, rfl⟩

theorem zeros_ok {zc : List AV} {zl : Array Value} (h : VRs F σ zc zl.toList) (n : Nat) (hn : n = 0 ∨ 0 < zc.length) :
    VRs F σ (evZeros zc n) ((Array.range n).map (zl[· % zl.size]!)).toList := by
  have hl : zl.size = zc.length := by rw [← h.length]; simp
  rw [Array.toList_map, Array.toList_range]
  refine VRs.map_range n fun i hi => ?_
  have hlt : i % zc.length < zl.size := by rw [hl]; exact Nat.mod_lt _ (by omega)
  have := h.getD (i % zc.length)
  rw [hl, getElem!_pos zl (i % zc.length) hlt]
  have e : zl.toList.getD (i % zc.length) undef = zl[i % zc.length] := by
    simp [List.getD, List.getElem?_eq_getElem (show i % zc.length < zl.toList.length by simpa using hlt)]
  rw [← e]; exact this

def evBuildSlice (P : Program) (s : AS) (t : TypeId) (len : Nat) (parts : List (Nat × AV)) : Option (AV × AS) :=
  match P.underlying t with
  | some (.slice e) =>
    match sizeT P e, zeroT P e with
    | some n, some z =>
      if len * n ≤ 16777216 ∧ (len * n = 0 ∨ 0 < z.cellsOf.length) then
        match evFill (fun i => some (i * n, n)) (evZeros z.cellsOf (len * n)) parts with
        | some cs =>
          match s.new (.cells cs e) with
          | some (id, s') => some (.sl id 0 len (.lit len), s')
          | none => none
        | none => none
      else none
    | _, _ => none
  | _ => none

theorem buildSlice_ok (h : Rep F A w0 σ w s) {t : TypeId} {len : Nat} {parts : List (Nat × AV)} {r : AV} {s' : AS} (he : evBuildSlice P s t len parts = some (r, s')) {vparts : Array (Nat × Value)} (hp : PRs F σ parts vparts.toList) :
    ∃ σ' w' rv, (Instr.buildSlice t len vparts).run P w = .ok rv w' ∧ VR F σ' r rv ∧ σ.le σ' ∧ Rep F A w0 σ' w' s' := by
  unfold evBuildSlice at he
  split at he
  · rename_i e hu
    split at he
    · rename_i n z hn hz
      split at he
      · rename_i hc
        obtain ⟨hc1, hc2⟩ := hc
        split at he
        · rename_i cs hcs
          split at he
          · rename_i id s1 hnew
            simp only [Option.some.injEq, Prod.mk.injEq] at he
            obtain ⟨rfl, rfl⟩ := he
            have hnle : ¬ len * n > 2 ^ 24 := by omega
            have hnle0 : ¬ (0 > 2 ^ 24) := by decide
            by_cases h0 : len * n = 0
            · have hz0 := zeros_ok (F := F) (σ := σ) (zc := z.cellsOf) (zl := (#[] : Array Value)) (n := 0)
              have hcs' : VRs F σ (evZeros z.cellsOf (len * n)) (((Array.range (len * n)).map ((#[] : Array Value)[· % (#[] : Array Value).size]!)).toList) := by rw [h0]; simp [evZeros, VRs]
              obtain ⟨arr', h1, h2⟩ := fill_ok _ _ _ _ _ _ hp hcs' hcs
              obtain ⟨hle, hrep⟩ := h.new hnew rfl (κ := 0) (ob := .cells arr' e) ⟨arr'.toList, h2.mono (Sig.le_upd _ (h.fresh _ (AS.get_new hnew).1)), by simp⟩
              refine ⟨_, _, .slice (some ⟨w.heap.size, 0, none⟩) len len, ?_, ?_, hle, hrep⟩
              · simp only [Instr.buildSlice, Sem.run_bind, run_underlying hu, Result.andThen_ok, run_sizeT hn, hnle0, if_false, h0, if_true, Sem.run_pure]
                rw [h0] at h1
                simp only [h1, newRow, Sem.run_bind, run_newObj, Result.andThen_ok, Sem.run_pure]
                rfl
              · simp only [VR, CapE.val]
                exact ⟨_, _, Sig.upd_same _ _ _, rfl⟩
            · obtain ⟨zv, hzr, hzv⟩ := run_zeroT (F := F) (σ := σ) hz w
              have hcs' := zeros_ok hzv.cells (len * n) hc2
              obtain ⟨arr', h1, h2⟩ := fill_ok _ _ _ _ _ _ hp hcs' hcs
              obtain ⟨hle, hrep⟩ := h.new hnew rfl (κ := 0) (ob := .cells arr' e) ⟨arr'.toList, h2.mono (Sig.le_upd _ (h.fresh _ (AS.get_new hnew).1)), by simp⟩
              refine ⟨_, _, .slice (some ⟨w.heap.size, 0, none⟩) len len, ?_, ?_, hle, hrep⟩
              · simp only [Instr.buildSlice, Sem.run_bind, run_underlying hu, Result.andThen_ok, run_sizeT hn, hnle, if_false, h0, hzr, Sem.run_pure]
                simp only [h1, newRow, Sem.run_bind, run_newObj, Result.andThen_ok, Sem.run_pure]
                rfl
              · simp only [VR, CapE.val]
                exact ⟨_, _, Sig.upd_same _ _ _, rfl⟩
          · cases he
        · cases he
      · cases he
    · cases he
  · cases he

def isByteT (P : Program) (e : TypeId) : Bool := match sizeT P e, bytesT P e, zeroT P e with
  | some 1, some 1, some (.int .u8 (.lit 0)) => true
  | _, _, _ => false

def evMakeSlice (P : Program) (R : Facts) (s : AS) (t : TypeId) (l c : AV) : Option (AV × AS) :=
  match l, c with
  | .int _ (.lit l), .int _ (.lit c) =>
    match P.underlying t with
    | some (.slice e) =>
      match sizeT P e, bytesT P e, zeroT P e with
      | some n, some by', some z =>
        if 0 ≤ l ∧ l ≤ c ∧ c ≤ 16777216 ∧ by' ≤ 16777216 ∧ (c.toNat * n = 0 ∨ 0 < z.cellsOf.length) then
          match s.new (.cells (evZeros z.cellsOf (c.toNat * n)) e) with
          | some (id, s') => some (.sl id 0 l.toNat (.lit c.toNat), s')
          | none => none
        else none
      | _, _, _ => none
    | _ => none
  | .int _ l, .int _ c =>
    match P.underlying t with
    | some (.slice e) =>
      if isByteT P e && l.beq c && nn R l && leq R l (.lit 1099511627776) then
        match s.new (.data (.zeros l) e) with
        | some (id, s') => some (.vw id (.lit 0) l .rest, s')
        | none => none
      else none
    | _ => none
  | _, _ => none

theorem wrap_small (n : Int) (h0 : 0 ≤ n) (h1 : n ≤ 16777216) : IntKind.i64.wrap n = n := by
  refine wrap_in _ _ ?_ ?_ <;> simp [IntKind.min, IntKind.max, IntKind.signed, IntKind.bits] <;> omega

theorem makeBytes_ok (h : Rep F A w0 σ w s) {t e : TypeId} (hu : P.underlying t = some (.slice e)) (hb : isByteT P e = true) (k1 k2 : IntKind) {l : Tm} {n : Nat} (hl : (l.val F).i = (n : Int)) (hn : n ≤ 1099511627776) {id : Nat} {s' : AS}
    (hnew : s.new (.data (.zeros l) e) = some (id, s')) :
    ∃ σ' w' rv, (Instr.makeSlice t (.int k1 n) (.int k2 n)).run P w = .ok rv w' ∧ VR F σ' (.vw id (.lit 0) l .rest) rv ∧ σ.le σ' ∧ Rep F A w0 σ' w' s' := by
  unfold isByteT at hb
  split at hb
  · rename_i hs hb1 hz
    unfold bytesT at hb1
    split at hb1
    · rename_i ie hie
      simp only [Option.some.injEq] at hb1
      have hmul : ¬ ((ie.bytes : Int) * n > 2 ^ 48) := by rw [hb1]; omega
      have hwn : IntKind.i64.wrap (n : Int) = n := by
        refine wrap_in _ _ ?_ ?_ <;> simp [IntKind.min, IntKind.max, IntKind.signed, IntKind.bits] <;> omega
      have hcn : ¬ (n : Int) < 0 := by omega
      have hlc : ¬ (n : Int) > n := by omega
      obtain ⟨zv, hzr, hzv⟩ := run_zeroT (F := F) (σ := σ) hz w
      simp only [VR, Tm.val, Dat.i_int] at hzv
      subst hzv
      have hcells : ∀ (z : Array Value), (n ≠ 0 → z = #[.int .u8 0]) → ((Array.range n).map (z[· % z.size]!)).toList = List.replicate n (byteV 0) := by
        intro z hz
        rw [Array.toList_map, Array.toList_range]
        apply List.ext_getElem?
        intro i
        simp only [List.getElem?_map, List.getElem?_replicate]
        by_cases hi : i < n
        · rw [hz (by omega), List.getElem?_range hi, if_pos hi]
          simp [byteV, Nat.mod_one]
        · rw [if_neg hi, List.getElem?_eq_none (by simpa using hi)]; rfl
      obtain ⟨arr, harr, hrun⟩ : ∃ arr : Array Value, arr.toList = List.replicate n (byteV 0) ∧
          (Instr.makeSlice t (.int k1 n) (.int k2 n)).run P w = .ok (.slice (some ⟨w.heap.size, 0, none⟩) n n) (w.alloc (.cells arr e)) := by
        by_cases h0 : n = 0
        · subst h0
          refine ⟨#[], by simp, ?_⟩
          simp only [Int.natCast_zero] at *
          simp only [Instr.makeSlice, Sem.run_bind, run_underlying hu, Result.andThen_ok, asInt, asIntOf, Sem.run_pure, typeInfo, run_program, hie, hwn, hmul, decide_false, Bool.or_self, Bool.false_eq_true, if_false, run_askRoom,
                      run_sizeT hs, if_true, newRow, run_newObj, Int.lt_irrefl, gt_iff_lt, Int.toNat_zero, Nat.mul_one, Array.range_zero', List.map_toArray, List.map_nil]
          rfl
        · refine ⟨(Array.range n).map ((#[.int .u8 0] : Array Value)[· % (#[.int .u8 0] : Array Value).size]!), hcells _ (fun _ => rfl), ?_⟩
          simp only [Instr.makeSlice, Sem.run_bind, run_underlying hu, Result.andThen_ok, asInt, asIntOf, Sem.run_pure, typeInfo, run_program, hie, hwn, hcn, hlc, hmul, decide_false, Bool.or_self, Bool.false_eq_true, if_false, run_askRoom,
                      run_sizeT hs, h0, hzr, newRow, run_newObj, Int.toNat_natCast, Nat.mul_one]
          rfl
      obtain ⟨hle, hrep⟩ := h.new hnew rfl (κ := n) (ob := .cells arr e) ⟨arr, by
          simp only [Tm.val, Dat.d_bytes, hl, Int.toNat_natCast, List.length_replicate, List.map_replicate]
          rw [harr, List.take_of_length_le (by simp)], rfl, by rw [← Array.length_toList, harr]; simp, by unfold maxLen; omega⟩
      refine ⟨_, _, _, hrun, ?_, hle, hrep⟩
      simp only [VR, ViewAt]
      exact ⟨_, _, Sig.upd_same _ _ _, 0, n, n, rfl, hl, rfl, by omega, by omega⟩
    · cases hb1
  · cases hb

theorem makeSlice_ok (hR : FOK F R) (h : Rep F A w0 σ w s) {t : TypeId} {l c : AV} {r : AV} {s' : AS} (he : evMakeSlice P R s t l c = some (r, s')) {vl vc : Value} (hl : VR F σ l vl) (hc : VR F σ c vc) :
    ∃ σ' w' rv, (Instr.makeSlice t vl vc).run P w = .ok rv w' ∧ VR F σ' r rv ∧ σ.le σ' ∧ Rep F A w0 σ' w' s' := by
  unfold evMakeSlice at he
  split at he
  · rename_i k1 l k2 c
    simp only [VR, Tm.val] at hl hc
    subst hl hc
    split at he
    · rename_i e hu
      split at he
      · rename_i n by' z hn hb hz
        split at he
        · rename_i hcond
          obtain ⟨h1, h2, h3, h4, h5⟩ := hcond
          split at he
          · rename_i id s1 hnew
            simp only [Option.some.injEq, Prod.mk.injEq] at he
            obtain ⟨rfl, rfl⟩ := he
            unfold bytesT at hb
            split at hb
            · rename_i ie hie
              simp only [Option.some.injEq] at hb
              subst hb
              have hn' : n = ie.size := by unfold sizeT at hn; simp only [hie, Option.some.injEq] at hn; exact hn.symm
              have hmul : ¬ ((ie.bytes : Int) * c > 2 ^ 48) := by
                have h6 : (ie.bytes : Int) * c ≤ 16777216 * 16777216 := Int.mul_le_mul (by omega) h3 (by omega) (by omega)
                omega
              have hmul' : ¬ ((ie.bytes : Int) * l > 2 ^ 48) := by
                have h6 : (ie.bytes : Int) * l ≤ 16777216 * 16777216 := Int.mul_le_mul (by omega) (by omega) (by omega) (by omega)
                omega
              have hwl := wrap_small l h1 (by omega)
              have hwc := wrap_small c (by omega) h3
              have hcn : ¬ c < 0 := by omega
              have hln : ¬ l < 0 := by omega
              have hlc : ¬ l > c := by omega
              obtain ⟨zv, hzr, hzv⟩ := run_zeroT (F := F) (σ := σ) hz w
              obtain ⟨arr, harr, hrun⟩ : ∃ arr : Array Value, VRs F σ (evZeros z.cellsOf (c.toNat * n)) arr.toList ∧
                  (Instr.makeSlice t (.int k1 l) (.int k2 c)).run P w = .ok (.slice (some ⟨w.heap.size, 0, none⟩) l.toNat c.toNat) (w.alloc (.cells arr e)) := by
                by_cases h0 : c.toNat * n = 0
                · refine ⟨#[], ?_, ?_⟩
                  rotate_left
                  · simp only [Instr.makeSlice, Sem.run_bind, run_underlying hu, Result.andThen_ok, asInt, asIntOf, Sem.run_pure, typeInfo, run_program, hie, hwl, hwc, hcn, hln, hlc, hmul, decide_false, Bool.or_self, Bool.false_eq_true, if_false, run_askRoom,
                      run_sizeT hn, h0, if_true, newRow, run_newObj, Array.range_zero', List.map_toArray, List.map_nil]
                    rfl
                  · rw [h0]; simp [evZeros, VRs]
                · refine ⟨(Array.range (c.toNat * n)).map (zv.cells[· % zv.cells.size]!), ?_, ?_⟩
                  rotate_left
                  · simp only [Instr.makeSlice, Sem.run_bind, run_underlying hu, Result.andThen_ok, asInt, asIntOf, Sem.run_pure, typeInfo, run_program, hie, hwl, hwc, hcn, hln, hlc, hmul, decide_false, Bool.or_self, Bool.false_eq_true, if_false, run_askRoom,
                      run_sizeT hn, h0, hzr, newRow, run_newObj]
                    rfl
                  · exact zeros_ok hzv.cells (c.toNat * n) h5
              obtain ⟨hle, hrep⟩ := h.new hnew rfl (κ := 0) (ob := .cells arr e) ⟨_, harr.mono (Sig.le_upd _ (h.fresh _ (AS.get_new hnew).1)), by simp⟩
              refine ⟨_, _, _, hrun, ?_, hle, hrep⟩
              · simp only [VR, CapE.val]
                exact ⟨_, _, Sig.upd_same _ _ _, rfl⟩
            · cases hb
          · cases he
        · cases he
      · cases he
    · cases he
  · rename_i k1 l k2 c _
    simp only [VR] at hl hc
    subst hl hc
    split at he
    · rename_i e hu
      split at he
      · rename_i hcond
        simp only [Bool.and_eq_true] at hcond
        have e1 := Tm.beq_eq hcond.1.1.2
        subst e1
        have h1 := nn_ok hR hcond.1.2
        have h2 := leq_ok hR hcond.2
        simp only [Tm.val, Dat.i_int] at h2
        split at he
        · rename_i id s1 hnew
          simp only [Option.some.injEq, Prod.mk.injEq] at he
          obtain ⟨rfl, rfl⟩ := he
          have hn : (l.val F).i = ((l.val F).i.toNat : Int) := (Int.toNat_of_nonneg h1).symm
          have := makeBytes_ok h hu hcond.1.1.1 k1 k2 hn (by omega) hnew
          rw [← hn] at this
          exact this
        · cases he
      · cases he
    · cases he
  · cases he
end
end
end Go.Sy
