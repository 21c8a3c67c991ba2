/- bits.Sum: a number that hangs on the bytes alone. Conditions: the bytes stand in memory. -/
import Derived.Test.YtpjakhjaicegjaaGreatDoorSyB
import Derived.Test.YtpjakhjaicegjaaGreatDoorProg
namespace Go.Proofs.YtpjakhjaicegjaaGreatDoor.sum
open Go.Sy Go.RowKit

noncomputable def table : List Int := [0, 498536548, 997073096, 651767980, 1994146192, 1802195444, 1303535960, 1342533948, 3988292384, 4027552580, 3604390888, 3412177804, 2607071920, 2262029012, 2685067896, 3183342108]
noncomputable def half (x : Tm) : Tm := .bin .xor .u32 (.sh .shr .u32 x (.lit 4)) (.tab table (.bin .and .u32 x (.lit 15)))
/-- What one byte makes of the number. -/
noncomputable def stepT : Tm := half (half (.bin .xor .u32 (.var 0) (.idx (.var 1) (.var 2))))
/-- The number ahead of byte k. -/
noncomputable def at_ (l : List UInt8) : Nat → Int
  | 0 => 4294967295
  | k + 1 => (stepT.val (S := Sg.bare) fun j => if j = 0 then .int (at_ l k) else if j = 2 then .int k else .bytes l).i
noncomputable def crc (l : List UInt8) : Int := (evIntOp .xor .u32 4294967295 (at_ l l.length)).getD 0
noncomputable def SS : Sg := { Sg.bare with fn := fun g a => match g with | 0 => .int (crc a.d) | 1 => .int (at_ a.d a.d.length) | _ => .none }

noncomputable def tlits : List AV := table.map fun n => .int .u32 (.lit n)
/-- The memory at the loop. -/
noncomputable def st : AS := ⟨Tr.set (.cells tlits 181) 24 (Tr.set (.cells tlits 181) 24 (Tr.set (.rdata (.var 1)) 24 .nil 0) 1) 2, 3⟩
noncomputable def lenT1 : Tm := .len (.var 1)
noncomputable def tm0 : Fr := fset 35 (fset 35 (fset 35 (fset 35 (fset 35 .nil 3 (.ptr 2 0)) 4 (.int .u32 (.var 0))) 8 (.rv 0 (.lit 0) lenT1)) 9 (.int .i64 lenT1)) 10 (.int .i64 (.var 2))
noncomputable def R0 : Facts := ⟨[(lenT1, ⟨none, some 4611686018427387904⟩)], []⟩
noncomputable def RG : Facts := ⟨[(.var 2, ⟨some 0, some 4611686018427387904⟩), (lsub lenT1 (.var 2), ⟨some 1, none⟩), (lenT1, ⟨none, some 4611686018427387904⟩)], []⟩
noncomputable def RZ : Facts := ⟨[(.var 2, ⟨some 0, some 4611686018427387904⟩), (lsub lenT1 (.var 2), ⟨some 0, some 0⟩), (lenT1, ⟨none, some 4611686018427387904⟩)], []⟩
noncomputable def noCalls : CallF := fun _ _ _ => none
noncomputable def noLoop : LoopF := fun _ _ _ => none
noncomputable def loopC : Code := match Tryz.f59.body with
  | some (.seq _ (.seq _ (.seq _ (.seq (.seq _ (.block 0 (.loop c))) _)))) => c
  | _ => .skip
noncomputable def is (tm : Fr) (t : Nat) (v : AV) : Bool := match fget tm t with
  | some u => u.beq v
  | none => false
theorem is_eq {tm : Fr} {t : Nat} {v : AV} (h : is tm t v = true) : fget tm t = some v := by
  unfold is at h
  split at h
  · rename_i u hu; rw [hu, AV.beq_eq _ _ h]
  · cases h
noncomputable def sameS (s : AS) : Bool := Tr.beq s.h st.h && Nat.beq s.next st.next
theorem sameS_eq {s : AS} (h : sameS s = true) : s = st := by
  simp only [sameS, Bool.and_eq_true] at h
  obtain ⟨h1, h2⟩ := h
  obtain ⟨a, b⟩ := s
  have e1 : a = st.h := Tr.beq_eq h1
  have e2 : b = st.next := Nat.eq_of_beq_eq_true h2
  rw [e1, e2]
noncomputable def goes (r : Res) : Bool := match r with
  | some (.normal, tm, s) => sameS s && is tm 3 (.ptr 2 0) && is tm 4 (.int .u32 stepT) && is tm 8 (.rv 0 (.lit 0) lenT1) && is tm 9 (.int .i64 lenT1) && is tm 10 (.int .i64 (.lsum 1 (.var 2) (.lit 1)))
  | _ => false
noncomputable def ends (r : Res) : Bool := match r with
  | some (.exit 0, tm, s) => sameS s && is tm 4 (.int .u32 (.var 0))
  | _ => false
theorem round : goes (evCode Tryz.prog RG noCalls noLoop 10 35 loopC tm0 st) = true := by kernel_rfl
theorem last : ends (evCode Tryz.prog RZ noCalls noLoop 10 35 loopC tm0 st) = true := by kernel_rfl

/-- The loop's line: at its start, to its end. -/
noncomputable def lf : LoopF := fun id tm s =>
  match Nat.beq id 4 && sameS s && is tm 3 (.ptr 2 0) && is tm 4 (.int .u32 (.lit 4294967295)) && is tm 8 (.rv 0 (.lit 0) lenT1) && is tm 9 (.int .i64 lenT1) && is tm 10 (.int .i64 (.lit 0)) with
  | true => some (.exit 0, fset 35 .nil 4 (.int .u32 (.fn 1 (.var 1))), st)
  | false => none
noncomputable def lfs : FuncId → LoopF := fun f => match Nat.beq f 59 with
  | true => lf
  | false => noLoop
noncomputable def tells0 (v : AV) (r : Option (AV × AS)) : Bool := match r with
  | some (u, _) => u.beq v
  | none => false
noncomputable def resT : Tm := .bin .xor .u32 (.lit 4294967295) (.fn 1 (.var 1))
noncomputable def s0 : AS := ⟨Tr.set (.rdata (.var 1)) 24 .nil 0, 1⟩
theorem whole : tells0 (.int .u32 resT) (evCall Tryz.prog R0 100 noCalls lfs 10 59 [.rv 0 (.lit 0) lenT1] s0) = true := by kernel_rfl
theorem nilsl : tells0 (.int .u32 (.lit 0)) (evCall Tryz.prog Facts.none 100 noCalls (fun _ => noLoop) 10 59 [.nilsl] ⟨.nil, 0⟩) = true := by kernel_rfl
theorem argz : tells0 (.int .u32 (.lit 0)) (evCall Tryz.prog Facts.none 100 noCalls (fun _ => noLoop) 10 59 [.argz] ⟨.nil, 0⟩) = true := by kernel_rfl

theorem goes_inv {r : Res} (h : goes r = true) : ∃ tm, r = some (.normal, tm, st) ∧ fget tm 3 = some (.ptr 2 0) ∧ fget tm 4 = some (.int .u32 stepT) ∧ fget tm 8 = some (.rv 0 (.lit 0) lenT1) ∧ fget tm 9 = some (.int .i64 lenT1) ∧ fget tm 10 = some (.int .i64 (.lsum 1 (.var 2) (.lit 1))) := by
  unfold goes at h
  split at h
  · rename_i tm s
    simp only [Bool.and_eq_true] at h
    obtain ⟨⟨⟨⟨⟨h1, h2⟩, h3⟩, h4⟩, h5⟩, h6⟩ := h
    rw [sameS_eq h1]
    exact ⟨tm, rfl, is_eq h2, is_eq h3, is_eq h4, is_eq h5, is_eq h6⟩
  · cases h
theorem ends_inv {r : Res} (h : ends r = true) : ∃ tm, r = some (.exit 0, tm, st) ∧ fget tm 4 = some (.int .u32 (.var 0)) := by
  unfold ends at h
  split at h
  · rename_i tm s
    simp only [Bool.and_eq_true] at h
    rw [sameS_eq h.1]
    exact ⟨tm, rfl, is_eq h.2⟩
  · cases h
theorem get_tm0 {t : Nat} {v : AV} (h : fget tm0 t = some v) : (t = 10 ∧ v = .int .i64 (.var 2)) ∨ (t = 9 ∧ v = .int .i64 lenT1) ∨ (t = 8 ∧ v = .rv 0 (.lit 0) lenT1) ∨ (t = 4 ∧ v = .int .u32 (.var 0)) ∨ (t = 3 ∧ v = .ptr 2 0) := by
  unfold tm0 at h
  have hN : (35 : Nat) < 4095 := by omega
  rw [fget_fset hN] at h
  split at h
  · rename_i e; cases h; exact .inl ⟨e.1, rfl⟩
  rw [fget_fset hN] at h
  split at h
  · rename_i e; cases h; exact .inr (.inl ⟨e.1, rfl⟩)
  rw [fget_fset hN] at h
  split at h
  · rename_i e; cases h; exact .inr (.inr (.inl ⟨e.1, rfl⟩))
  rw [fget_fset hN] at h
  split at h
  · rename_i e; cases h; exact .inr (.inr (.inr (.inl ⟨e.1, rfl⟩)))
  rw [fget_fset hN] at h
  split at h
  · rename_i e; cases h; exact .inr (.inr (.inr (.inr ⟨e.1, rfl⟩)))
  · rw [show fget .nil t = none from Tr.get_nil _ _] at h; cases h
theorem st_only : ∀ id o, st.get id = some o → o.only (fun j => Nat.beq j 1) = true := AS.only_get (by kernel_rfl)

noncomputable def fam (F : Fix SS) (l : List UInt8) (k : Nat) : Fix SS := fun j => if j = 0 then .int (at_ l k) else if j = 2 then .int k else F j
theorem fam_zero (F : Fix SS) (l : List UInt8) (k : Nat) : fam F l k 0 = .int (at_ l k) := rfl
theorem fam_two (F : Fix SS) (l : List UInt8) (k : Nat) : fam F l k 2 = .int (k : Int) := rfl
theorem fam_one (F : Fix SS) (l : List UInt8) (k : Nat) : fam F l k 1 = F 1 := rfl
theorem fam_rep {F : Fix SS} {l : List UInt8} (k j : Nat) {A : Nat → Prop} {w0 w : World} {σ : Sig} (h : Rep (fam F l k) A w0 σ w st) : Rep (fam F l j) A w0 σ w st :=
  Rep.only (p := fun j => Nat.beq j 1) (fun i hi => by obtain rfl := Nat.eq_of_beq_eq_true hi; rfl) st_only h
theorem step_val (F : Fix SS) (l : List UInt8) (hF : F 1 = .bytes l) (k : Nat) : (stepT.val (fam F l k)).i = at_ l (k + 1) := by
  show _ = (stepT.val (S := Sg.bare) _).i
  simp only [stepT, half, Tm.val, fam_zero, fam_two, fam_one, hF, Dat.i_int]
  rfl

theorem fits {F : Fix SS} {l : List UInt8} (hF : F 1 = .bytes l) (hl : (l.length : Int) ≤ 4611686018427387904) (A : Nat → Prop) (w0 : World) : LoopFits F A w0 Tryz.prog 35 lf loopC := by
  intro id _ tm s e tm' s' h σ w a Q hrep htm hd hQ
  unfold lf at h
  split at h
  · rename_i hc
    simp only [Bool.and_eq_true] at hc
    obtain ⟨⟨⟨⟨⟨⟨_, c1⟩, c2⟩, c3⟩, c4⟩, c5⟩, c6⟩ := hc
    simp only [Option.some.injEq, Prod.mk.injEq] at h
    obtain ⟨rfl, rfl, rfl⟩ := h
    have hst := sameS_eq c1
    rw [hst] at hrep
    have n2 := is_eq c2
    have n3 := is_eq c3
    have n4 := is_eq c4
    have n5 := is_eq c5
    have n6 := is_eq c6
    obtain ⟨tm1, hgo, g3, g4, g8, g9, g10⟩ := goes_inv round
    obtain ⟨tm2, hend, e4⟩ := ends_inv last
    have hlen : ∀ k, (lenT1.val (fam F l k)).i = (l.length : Int) := fun k => by simp only [lenT1, Tm.val, fam_one, hF, Dat.i_int, Dat.d_bytes]
    have hrng : ∀ k, ((lsub lenT1 (.var 2)).val (fam F l k)).i = (l.length : Int) - k := fun k => by rw [lsub_val, hlen]; simp only [Tm.val, fam_two, Dat.i_int]
    have hrep0 : Rep (fam F l 0) A w0 σ w st := Rep.only (p := fun j => Nat.beq j 1) (fun i hi => by obtain rfl := Nat.eq_of_beq_eq_true hi; rfl) st_only hrep
    have hlenF : (lenT1.val F).i = (l.length : Int) := by simp only [lenT1, Tm.val, hF, Dat.i_int, Dat.d_bytes]
    have one : ∀ i, Nat.beq i 1 = true → F i = fam F l 0 i := fun i hi => by obtain rfl := Nat.eq_of_beq_eq_true hi; rfl
    refine fold_loop (cf := noCalls) (lf := noLoop) (n := 10) (R := RG) (R' := RZ) (tm0 := tm0) (tm1 := tm1) (tm2 := tm2) (s := st) (e := .exit 0) (fam F l) l.length (fun k _ => none_ok _ _ _ _) (fun k _ x _ id _ tm s e tm' s' h => by cases h)
      (fun k hk => factsOK ⟨by simp only [Tm.val, fam_two, Dat.i_int]; exact Iv.has_ss.2 (by omega), by rw [hrng]; exact Iv.has_sn.2 (by omega), by rw [hlen]; exact Iv.has_ns.2 hl, trivial⟩ trivial)
      (factsOK ⟨by simp only [Tm.val, fam_two, Dat.i_int]; exact Iv.has_ss.2 (by omega), by rw [hrng]; exact Iv.has_ss.2 (by omega), by rw [hlen]; exact Iv.has_ns.2 hl, trivial⟩ trivial)
      hgo hend (by intro h; cases h) (fun k _ σ w h => fam_rep k (k + 1) h) ?_ hrep0 ?_ hd ?_
    · intro k hk σ tmps h
      refine ⟨h.size, h.small, fun t v hv => ?_⟩
      rcases get_tm0 hv with ⟨rfl, rfl⟩ | ⟨rfl, rfl⟩ | ⟨rfl, rfl⟩ | ⟨rfl, rfl⟩ | ⟨rfl, rfl⟩
      · have := h.at_ _ _ g10
        simp only [VR, Tm.val, fam_two, Dat.i_int] at this ⊢
        have e : 1 * (k : Int) + 1 = ((k + 1 : Nat) : Int) := by omega
        rw [this, e]
      · have := h.at_ _ _ g9
        simp only [VR, hlen] at this ⊢
        exact this
      · exact VR.only (p := fun j => Nat.beq j 1) (F := fam F l k) (fun i hi => by obtain rfl := Nat.eq_of_beq_eq_true hi; rfl) _ _ rfl (h.at_ _ _ g8)
      · have := h.at_ _ _ g4
        simp only [VR, step_val F l hF k] at this
        simp only [VR, Tm.val, fam_zero, Dat.i_int]
        exact this
      · have := h.at_ _ _ g3
        simp only [VR] at this ⊢
        exact this
    · refine ⟨htm.size, htm.small, fun t v hv => ?_⟩
      rcases get_tm0 hv with ⟨rfl, rfl⟩ | ⟨rfl, rfl⟩ | ⟨rfl, rfl⟩ | ⟨rfl, rfl⟩ | ⟨rfl, rfl⟩
      · have := htm.at_ _ _ n6
        simp only [VR, Tm.val, fam_two, Dat.i_int] at this ⊢
        exact this
      · have := htm.at_ _ _ n5
        simp only [VR, hlen, hlenF] at this ⊢
        exact this
      · exact VR.only (p := fun j => Nat.beq j 1) one _ _ rfl (htm.at_ _ _ n4)
      · have := htm.at_ _ _ n3
        simp only [VR, Tm.val, fam_zero, Dat.i_int] at this ⊢
        exact this
      · have := htm.at_ _ _ n2
        simp only [VR] at this ⊢
        exact this
    · intro σ' w' a' k1 k2 k3 k4
      refine hQ σ' w' a' k1 (Rep.only (p := fun j => Nat.beq j 1) (fun i hi => by obtain rfl := Nat.eq_of_beq_eq_true hi; rfl) st_only k2) ⟨k3.size, k3.small, fun t v hv => ?_⟩ k4
      rw [fget_fset k3.small] at hv
      split at hv
      · rename_i e
        cases hv
        obtain ⟨rfl, _⟩ := e
        have := k3.at_ _ _ e4
        simp only [VR, Tm.val, fam_zero, Dat.i_int] at this
        simp only [VR, Tm.val, hF]
        exact this
      · rw [show fget .nil t = none from Tr.get_nil _ _] at hv; cases hv
  · cases h
theorem loops_ok {F : Fix SS} {l : List UInt8} (hF : F 1 = .bytes l) (hl : (l.length : Int) ≤ 4611686018427387904) (A : Nat → Prop) (w0 : World) : LoopsOK F A w0 Tryz.prog lfs := by
  intro f fn c hf hc x hx
  unfold lfs
  split
  · rename_i h59
    obtain rfl := Nat.eq_of_beq_eq_true h59
    rw [Tryz.func59] at hf
    simp only [Option.some.injEq] at hf
    subst hf
    have e : ∃ a b c d e f, Tryz.f59.body = some (.seq a (.seq b (.seq c (.seq (.seq d (.block 0 (.loop e))) f)))) ∧ e = loopC ∧ loopsOf a = [] ∧ loopsOf b = [] ∧ loopsOf c = [] ∧ loopsOf d = [] ∧ loopsOf f = [] ∧ loopsOf e = [] := ⟨_, _, _, _, _, _, rfl, rfl, rfl, rfl, rfl, rfl, rfl, rfl⟩
    obtain ⟨a1, a2, a3, a4, a5, a6, hb, h5, e1, e2, e3, e4, e6, e5⟩ := e
    rw [hb] at hc
    simp only [Option.some.injEq] at hc
    subst hc
    simp only [loopsOf, e1, e2, e3, e4, e5, e6, List.nil_append, List.append_nil, List.mem_singleton] at hx
    subst hx
    rw [h5]
    exact fits hF hl A w0
  · intro id _ tm s e tm' s' h
    cases h

theorem tells0_inv {v : AV} {r : Option (AV × AS)} (h : tells0 v r = true) : ∃ s, r = some (v, s) := by
  unfold tells0 at h
  split at h
  · rename_i u s; rw [AV.beq_eq _ _ h]; exact ⟨s, rfl⟩
  · cases h
theorem crc_nil : crc [] = 0 := by decide
/-- What bits.Sum says of bytes. -/
theorem sum_ok {w : World} {v : Value} {l : List UInt8} (h : BytesAt w v l) (hl : (l.length : Int) ≤ 4611686018427387904) :
    Calls Tryz.prog 59 #[v] w fun e w' => e = .returned (.int .u32 (crc l)) ∧ Below w.heap.size w w' := by
  by_cases hn : l = []
  · subst hn
    rw [crc_nil]
    rcases h with ⟨rfl, _⟩ | ⟨a, c, rfl, _⟩
    · obtain ⟨s, hs⟩ := tells0_inv nilsl
      refine (evCall_ok (facts_none noFix) (noLoops _ _ _ _) (none_ok _ (fun _ => False) w _) 10 59 _ _ _ _ hs _ w [.slice none 0 0] (by simp [VRs, VR]) (rep_start _ _ w 0)).mono ?_
      rintro e w' ⟨σ', rv, rfl, hv, _, hrep⟩
      simp only [VR, Tm.val, Dat.i_int] at hv
      exact ⟨by rw [hv], hrep.kept.below⟩
    · obtain ⟨s, hs⟩ := tells0_inv argz
      refine (evCall_ok (facts_none noFix) (noLoops _ _ _ _) (none_ok _ (fun _ => False) w _) 10 59 _ _ _ _ hs _ w [.slice (some a) 0 c] (by simp [VRs, VR]) (rep_start _ _ w 0)).mono ?_
      rintro e w' ⟨σ', rv, rfl, hv, _, hrep⟩
      simp only [VR, Tm.val, Dat.i_int] at hv
      exact ⟨by rw [hv], hrep.kept.below⟩
  · obtain ⟨b, off, c, arr, t, fr, rfl, hc, hb, hblk, hrow⟩ := h.row hn
    obtain ⟨F, hF⟩ : ∃ F : Fix SS, F = fun _ => .bytes l := ⟨_, rfl⟩
    have hF1 : F 1 = .bytes l := by rw [hF]
    have hnew : (⟨.nil, 0⟩ : AS).new (.rdata (.var 1)) = some (0, s0) := rfl
    obtain ⟨_, hσ, hrep⟩ := rep_arg (F := F) (t := .var 1) (off := off) (rep_start F (fun _ => False) w 0) hnew hb (fun e => e) hblk (by simp only [Tm.val, hF1, Dat.d_bytes]; exact hrow)
    obtain ⟨s, hs⟩ := tells0_inv whole
    have hR : FOK F R0 := factsOK ⟨by simp only [lenT1, Tm.val, hF1, Dat.i_int, Dat.d_bytes]; exact Iv.has_ns.2 hl, trivial⟩ trivial
    refine (evCall_ok hR (loops_ok hF1 hl _ _) (none_ok _ (fun _ => False) w _) 10 59 _ _ _ _ hs _ w [.slice (some ⟨b, off, none⟩) l.length c] ?_ hrep).mono ?_
    · simp only [VRs, VR]
      exact ⟨_, _, ⟨b, off, hσ, 0, l.length, c, by simp [Tm.val], by simp [lenT1, Tm.val, hF1], .inl ⟨by simp, hc⟩⟩, rfl, rfl⟩
    · rintro e w' ⟨σ', rv, rfl, hv, _, hrep⟩
      simp only [VR] at hv
      refine ⟨?_, hrep.kept.below⟩
      rw [hv]
      simp only [resT, Tm.val, hF1, Dat.i_int]
      rfl

/-- bits.Sum as a line of the table; sign g stands for it. -/
noncomputable def line (R : Facts) (g : Nat) : CallF := fun f l s =>
  match Nat.beq f 59, l with
  | true, [x] => match bytesSrc R s x, capSure x with
    | some (.bs _), _ => none
    | some t, true => if (rng R (lenT R t)).within 0 4611686018427387904 then some (.int .u32 (.fn g t), s) else none
    | _, _ => none
  | _, _ => none
theorem line_ok {S : Sg} {g : Nat} (hg : ∀ a, S.fn g a = .int (crc a.d)) {F : Fix S} {R : Facts} (hR : FOK F R) (A : Nat → Prop) (w0 : World) : CallOK F A w0 Tryz.prog (line R g) := by
  intro f xs s v s' h σ w vs hvs hrep
  unfold line at h
  split at h
  · rename_i x hf
    obtain rfl := Nat.eq_of_beq_eq_true hf
    split at h
    · cases h
    · rename_i t _ ht hc
      split at h
      · rename_i hw
        simp only [Option.some.injEq, Prod.mk.injEq] at h
        obtain ⟨rfl, rfl⟩ := h
        simp only [VRs] at hvs
        obtain ⟨y, ys, hy, rfl, rfl⟩ := hvs
        have hlen := Iv.within_ok hw (rng_ok hR _)
        rw [lenT_ok hR] at hlen
        refine (sum_ok (bytesAt_of hR hrep ht hc hy) hlen.2).mono ?_
        rintro e w' ⟨rfl, hb⟩
        exact ⟨σ, _, rfl, by simp only [VR, Tm.val, hg, Dat.i_int], Sig.le_refl _, rep_below hrep hb⟩
      · cases h
    · cases h
  · cases h
end Go.Proofs.YtpjakhjaicegjaaGreatDoor.sum
