/- Conversions, lengths, maps, iterators: the evaluator's and the model's agree. Conditions: the named integers lie in the ranges that were told. -/
import Derived.Test.YtpjakhjaicegjaaGreatDoorSy6
import Derived.Laws.IdiomStrings
namespace Go.Sy
open Go.RowKit
variable {S : Sg}
noncomputable section

def evUn (R : Facts) (op : UnOp) (x : AV) : Option AV :=
  match op, x with
  | .not, .bool b => some (.bool !b)
  | .not, .tb t => some (mkB R (.not t))
  | .neg, .int k (.lit n) => some (.int k (.lit (wrapF k (0 - n))))
  | .neg, .int k e => match arith R .sub k (.lit 0) e with
    | some t => some (.int k t)
    | none => none
  | .xor, .int k (.lit n) => match evIntOp .xor k (if k.signed then -1 else k.max) n with
    | some m => some (.int k (.lit m))
    | none => none
  | .xor, .int k e => some (.int k (.bin .xor k (.lit (if k.signed then -1 else k.max)) e))
  | _, _ => none

def evConvInt (R : Facts) (k : IntKind) : Tm → Tm
  | .lit n => .lit (wrapF k n)
  | e => if (rng R e).within (minF k) (maxF k) then e else .conv k e

/-- The bytes of what may be turned into a text. -/
def bytesSrc (R : Facts) (s : AS) : AV → Option Tm
  | .nilsl => some (.bs [])
  | .argz => some (.bs [])
  | x => match srcOf R s 1 x with
    | some (.data t) => some t
    | some (.cells cs _) => cellsTm R cs
    | none => none

def evConvert (P : Program) (R : Facts) (s : AS) (src dst : TypeId) (x : AV) : Option (AV × AS) :=
  match P.underlying src, P.underlying dst, x with
  | some _, some (.int k), .int _ e => some (.int k (evConvInt R k e), s)
  | some _, some .string, .str b => some (.str b, s)
  | some _, some .string, .ts b => some (.ts b, s)
  | some .string, some (.slice e), .str b =>
    match P.underlying e with
    | some (.int .u8) =>
      match s.new (.fro (b.map byteA) e) with
      | some (id, s') => some (.sl id 0 b.length (.rest 0), s')
      | none => none
    | _ => none
  | some (.slice e0), some (.slice e), .sl id off len cap =>
    if src = dst ∧ e0 = e then
      match P.underlying e, s.get id with
      | some (.int .u8), some (.cells vs e') => match s.put id (.fro vs e') with
        | some s' => some (.sl id off len cap, s')
        | none => none
      | _, _ => none
    else none
  | some (.slice e), some .string, x =>
    match P.underlying e with
    | some (.int .u8) => match bytesSrc R s x with
      | some t => some (mkS t, s)
      | none => none
    | _ => none
  | _, _, _ => none

def evLen (P : Program) (R : Facts) (s : AS) (t : TypeId) (x : AV) : Option AV :=
  match P.underlying t, x with
  | some .string, .str b => some (.int .i64 (.lit b.length))
  | some .string, .ts b => some (.int .i64 (lenT R b))
  | some (.slice _), .nilsl => some (.int .i64 (.lit 0))
  | some (.slice _), .sl _ _ n _ => some (.int .i64 (.lit n))
  | some (.slice _), .vw _ _ n _ => some (.int .i64 n)
  | some (.slice _), .rv _ _ n => some (.int .i64 n)
  | some (.slice _), .argl n => some (.int .i64 n)
  | some (.slice _), .argz => some (.int .i64 (.lit 0))
  | some (.map _ _), .nilmap => some (.int .i64 (.lit 0))
  | some (.map _ _), .map id => match s.get id with
    | some (.map es _) => some (.int .i64 (.lit es.length))
    | _ => none
  | some (.array n _), _ => some (.int .i64 (.lit n))
  | _, _ => none

def plainKey : TypeDesc → Bool
  | .int _ | .string | .bool => true
  | _ => false
def plainT (P : Program) (t : TypeId) : Bool := match P.underlying t with
  | some d => plainKey d
  | none => false

/-- Keys of a map: are two the same, if that can be told. -/
def keyEq (P : Program) (R : Facts) (kd : TypeDesc) (a b : AV) : Option Bool :=
  match kd, a, b with
  | .int _, .int k x, .int k' y => if k = k' then decB R (.eq x y) else none
  | .string, .str x, .str y => some (x == y)
  | .string, .str x, .ts y => decB R (.eqb (.bs x) y)
  | .string, .ts x, .str y => decB R (.eqb x (.bs y))
  | .string, .ts x, .ts y => decB R (.eqb x y)
  | .bool, .bool x, .bool y => some (x == y)
  | .struct fs, .agg xs, .agg ys => if ys.length = fs.size ∧ xs.length = fs.size then match fieldsEqT P R xs ys fs.toList with
    | some t => decB R t
    | none => none
    else none
  | _, _, _ => none

def findK (P : Program) (R : Facts) (kd : TypeDesc) (k : AV) : List (AV × AV × Nat) → Nat → Option (Option (Nat × AV))
  | [], _ => some none
  | (k', v, _) :: es, i =>
    match keyEq P R kd k k' with
    | some true => some (some (i, v))
    | some false => findK P R kd k es (i + 1)
    | none => none

/-- A struct of plain parts, one cell each. -/
def structKey (P : Program) (kt : TypeId) (fs : Array Field) : Bool :=
  !P.stoodInHeld kt && (fs.toList.all fun f => f.name != "_" && plainT P f.type) && fs.toList.map (·.offset) == List.range fs.size
def keyOK (P : Program) (kt : TypeId) (kd : TypeDesc) (k : AV) : Bool := match kd, k with
  | .struct fs, .agg xs => structKey P kt fs && xs.length == fs.size
  | kd, _ => plainKey kd

section
variable {F : Fix S} {A : Nat → Prop} {w0 : World} {σ : Sig} {w : World} {s : AS} {P : Program} {R : Facts}

theorem un_ok (hR : FOK F R) {op : UnOp} {x r : AV} (h : evUn R op x = some r) {v : Value} (hx : VR F σ x v) (w : World) : ∃ rv, (Op.unary op v).run P w = .ok rv w ∧ VR F σ r rv := by
  unfold evUn at h
  split at h
  · simp only [Option.some.injEq] at h
    subst h
    simp only [VR] at hx
    subst hx
    exact ⟨_, rfl, by simp only [VR]⟩
  · simp only [Option.some.injEq] at h
    subst h
    simp only [VR] at hx
    subst hx
    exact ⟨_, rfl, mkB_ok hR _⟩
  · simp only [Option.some.injEq] at h
    subst h
    simp only [VR] at hx
    subst hx
    exact ⟨_, rfl, by simp only [VR, Tm.val, wrapF_eq, Dat.i_int]⟩
  · split at h
    · rename_i t ht
      simp only [Option.some.injEq] at h
      subst h
      simp only [VR] at hx
      subst hx
      have := arith_ok hR ht
      simp only [evIntOp, Option.some.injEq, wrapF_eq, Tm.val, Dat.i_int] at this
      exact ⟨_, rfl, by simp only [VR, ← this]⟩
    · cases h
  · split at h
    · rename_i k n m hm
      simp only [Option.some.injEq] at h
      subst h
      simp only [VR, Tm.val, Dat.i_int] at hx
      subst hx
      simp only [evIntOp, Option.some.injEq, wrapF_eq] at hm
      subst hm
      exact ⟨_, rfl, by simp only [VR, Tm.val, Dat.i_int]⟩
    · cases h
  · simp only [Option.some.injEq] at h
    subst h
    simp only [VR] at hx
    subst hx
    exact ⟨_, rfl, by simp only [VR, Tm.val, Dat.i_int, evIntOp, Option.getD_some, wrapF_eq]⟩
  · cases h

theorem convInt_ok (hR : FOK F R) {k : IntKind} (e : Tm) : k.wrap (e.val F).i = ((evConvInt R k e).val F).i := by
  unfold evConvInt
  split
  · simp only [Tm.val, Dat.i_int, wrapF_eq]
  · split
    · rename_i hc
      have := Iv.within_ok hc (rng_ok hR e)
      rw [← wrapF_eq, wrapF_in k _ this.1 this.2]
    · simp only [Tm.val, Dat.i_int, wrapF_eq]

theorem bytesSrc_ok (hR : FOK F R) (h : Rep F A w0 σ w s) {x : AV} {t : Tm} (he : bytesSrc R s x = some t) {v : Value} (hx : VR F σ x v) :
    (v = .slice none 0 0 ∧ (t.val F).d = []) ∨ ∃ a c, v = .slice (some a) (t.val F).d.length c ∧ ∀ j (hj : j < (t.val F).d.length), w.cell? (a.add j) = some (.int .u8 ((t.val F).d[j].toNat : Int)) := by
  unfold bytesSrc at he
  split at he
  · simp only [Option.some.injEq] at he
    subst he
    simp only [VR] at hx
    exact .inl ⟨hx, rfl⟩
  · simp only [Option.some.injEq] at he
    subst he
    simp only [VR] at hx
    obtain ⟨a, c, rfl⟩ := hx
    exact .inr ⟨a, c, rfl, fun j hj => by simp [Tm.val] at hj⟩
  · have fin : ∀ m l, SrcAt w v m l → l = (t.val F).d.map byteV → m = (t.val F).d.length → (v = .slice none 0 0 ∧ (t.val F).d = []) ∨ ∃ a c, v = .slice (some a) (t.val F).d.length c ∧ ∀ j (hj : j < (t.val F).d.length), w.cell? (a.add j) = some (.int .u8 ((t.val F).d[j].toNat : Int)) := by
      intro m l hs hl hm
      rcases hs with ⟨h1, h2⟩ | ⟨a, c, h1, h2⟩
      · left
        exact ⟨h1, List.eq_nil_of_length_eq_zero (by omega)⟩
      · right
        refine ⟨a, c, by rw [h1, hm], fun j hj => h2 j _ ?_⟩
        rw [hl, List.getElem?_map, List.getElem?_eq_getElem hj]
        rfl
    split at he
    · rename_i t' hs
      simp only [Option.some.injEq] at he
      subst he
      obtain ⟨m, l, ⟨hm, hl, _⟩, _, hsrc⟩ := srcOf_ok hR h hs hx
      exact fin m l hsrc hl hm
    · rename_i cs n hs
      obtain ⟨m, l, ⟨hm, hl⟩, hlen, hsrc⟩ := srcOf_ok hR h hs hx
      have := cellsTm_ok hR he hl
      exact fin m l hsrc this (by rw [this] at hlen; simpa using hlen.symm)
    · cases he

theorem VRs.bytes (l : List UInt8) : VRs F σ (l.map byteA) (l.map byteV) := by
  induction l with
  | nil => simp [VRs]
  | cons b l ih => simp only [List.map_cons, VRs]; exact ⟨_, _, by simp [byteA, byteV, VR, Tm.val], ih, rfl⟩

theorem convert_ok (hR : FOK F R) (h : Rep F A w0 σ w s) {src dst : TypeId} {x r : AV} {s' : AS} (he : evConvert P R s src dst x = some (r, s')) {v : Value} (hx : VR F σ x v) :
    ∃ σ' w' rv, (convert src dst v).run P w = .ok rv w' ∧ VR F σ' r rv ∧ σ.le σ' ∧ Rep F A w0 σ' w' s' := by
  unfold evConvert at he
  split at he
  · rename_i d1 k k' e hs hd
    simp only [Option.some.injEq, Prod.mk.injEq] at he
    obtain ⟨rfl, rfl⟩ := he
    simp only [VR] at hx
    subst hx
    refine ⟨σ, w, .int k ((evConvInt R k e).val F).i, ?_, by simp only [VR], Sig.le_refl _, h⟩
    have hw := convInt_ok (k := k) hR e
    rw [run_convert_int w src dst k' _ (by simp [hs]) (by simp [Program.intKind, hd])]
    simp [Program.intKind, hd, hw]
  · rename_i d1 b hs hd
    simp only [Option.some.injEq, Prod.mk.injEq] at he
    obtain ⟨rfl, rfl⟩ := he
    have hx' := hx
    simp only [VR] at hx
    subst hx
    refine ⟨σ, w, .string (bytesOf b), ?_, hx', Sig.le_refl _, h⟩
    simp [convert, run_underlying hs, run_underlying hd]
  · rename_i d1 b hs hd
    simp only [Option.some.injEq, Prod.mk.injEq] at he
    obtain ⟨rfl, rfl⟩ := he
    have hx' := hx
    simp only [VR] at hx
    subst hx
    refine ⟨σ, w, .string (bytesOf (b.val F).d), ?_, hx', Sig.le_refl _, h⟩
    simp [convert, run_underlying hs, run_underlying hd]
  · rename_i e b hs hd
    split at he
    · rename_i hu
      split at he
      · rename_i id s1 hnew
        simp only [Option.some.injEq, Prod.mk.injEq] at he
        obtain ⟨rfl, rfl⟩ := he
        simp only [VR] at hx
        subst hx
        have hsz : (bytesOf b).size = b.length := by simp [bytesOf, ByteArray.size]
        have hrun := run_bytes_of_string (P := P) w src dst e (bytesOf b) hs hd hu
        rw [hsz] at hrun
        obtain ⟨hle, hrep⟩ := h.drew.new hnew rfl (κ := grownCap w b.length 0 e) (ob := .cells (bytesRow (bytesOf b) (grownCap w b.length 0 e)) e _)
          ⟨_, _, by
            have e1 : (bytesRow (bytesOf b) (grownCap w b.length 0 e)).toList.take (b.map byteA).length = b.map byteV := by
              simp [bytesRow, bytesOf, byteV]
            rw [e1]
            exact VRs.bytes b, rfl⟩
        refine ⟨_, _, _, hrun, ?_, hle, hrep⟩
        simp only [VR, CapE.val]
        exact ⟨_, _, Sig.upd_same _ _ _, rfl⟩
      · cases he
    · cases he
  · rename_i e0 e id off len cap hs hd
    split at he
    · rename_i hc
      obtain ⟨rfl, rfl⟩ := hc
      split at he
      · rename_i vs e' hu ho
        split at he
        · rename_i s1 hp
          simp only [Option.some.injEq, Prod.mk.injEq] at he
          obtain ⟨rfl, rfl⟩ := he
          have hx' := hx
          simp only [VR] at hx
          obtain ⟨b, κ, hb, rfl⟩ := hx
          obtain ⟨b2, κ2, hb2, hlive⟩ := h.obj id _ ho
          rw [hb] at hb2
          simp only [Option.some.injEq, Prod.mk.injEq] at hb2
          obtain ⟨rfl, rfl⟩ := hb2
          obtain ⟨ob, hob, l, hr, rfl⟩ := hlive rfl
          have hsh : w.shape? b = some (e', l.toArray.size) := by simp [World.shape?, hob]
          have hlt : b < w.heap.size := (Array.getElem?_eq_some_iff.1 hob).1
          have hrep := h.put (w' := w.freeze ⟨b, l.toArray.size, none⟩ 1) (ob := .cells l.toArray e' (l.toArray.size, l.toArray.size + 1)) ho rfl rfl hp rfl hb
            ⟨by simp [World.freeze], by simp [World.freeze], by simp [World.freeze], by simp [World.freeze], by
              simp [World.freeze, Array.getElem?_modify, hob], fun k hk => by simp [World.freeze, Array.getElem?_modify, Ne.symm hk]⟩
            ⟨l.toArray, _, by simpa [List.take_of_length_le (Nat.le_of_eq hr.length)] using hr, rfl⟩
          refine ⟨σ, _, _, ?_, hx', Sig.le_refl _, hrep⟩
          simp [convert, run_underlying hs, run_underlying hu, markStringish, hsh]
        · cases he
      · cases he
    · cases he
  · rename_i e hd _ hs
    split at he
    · rename_i hu
      split at he
      · rename_i t ht
        simp only [Option.some.injEq, Prod.mk.injEq] at he
        obtain ⟨rfl, rfl⟩ := he
        refine ⟨σ, w, .string (bytesOf (t.val F).d), ?_, mkS_ok t, Sig.le_refl _, h⟩
        rcases bytesSrc_ok hR h ht hx with ⟨rfl, h0⟩ | ⟨a, c, rfl, hc⟩
        · rw [run_convert_bytes_string w src dst _ none 0 0 (by assumption) hu (by assumption), h0]
          simp [Conv.bytesToString, bytesOf]
          rfl
        · exact run_convert_bytes_back w src dst _ a c _ (by assumption) hu (by assumption) hc
      · cases he
    · cases he
  · cases he

theorem ViewAt.len {b base κ : Nat} {off len : Tm} {cap : CapV} {v : Value} (h : ViewAt F b base κ off len cap v) : ∃ (a : Addr) (n c : Nat), (len.val F).i = (n : Int) ∧ v = .slice (some a) n c := by
  obtain ⟨o, n, c, _, hn, h⟩ := h
  cases cap with
  | rest => exact ⟨_, n, _, hn, h.1⟩
  | tight => exact ⟨_, n, _, hn, h.1⟩
  | any =>
    rcases h with h | ⟨rfl, a, h⟩
    · exact ⟨_, n, _, hn, h.1⟩
    · exact ⟨a, 0, c, hn, h⟩
theorem len_ok (hR : FOK F R) (h : Rep F A w0 σ w s) {t ty : TypeId} {x r : AV} (he : evLen P R s t x = some r) {v : Value} (hx : VR F σ x v) :
    ∃ rv, (Builtin.len_ #[t] ty #[v]).run P w = .ok rv w ∧ VR F σ r rv := by
  unfold evLen at he
  split at he
  · rename_i b hu
    simp only [Option.some.injEq] at he
    subst he
    simp only [VR] at hx
    subst hx
    have hsz : (bytesOf b).size = b.length := by simp [bytesOf, ByteArray.size]
    exact ⟨.int .i64 b.length, by simp [Builtin.len_, run_underlying hu, goInt, hsz], by simp only [VR, Tm.val, Dat.i_int]⟩
  · rename_i b hu
    simp only [Option.some.injEq] at he
    subst he
    simp only [VR] at hx
    subst hx
    have hsz : (bytesOf (b.val F).d).size = (b.val F).d.length := by simp [bytesOf, ByteArray.size]
    exact ⟨.int .i64 (b.val F).d.length, by simp [Builtin.len_, run_underlying hu, goInt, hsz], by simp only [VR, lenT_ok hR]⟩
  · rename_i e hu
    simp only [Option.some.injEq] at he
    subst he
    simp only [VR] at hx
    subst hx
    exact ⟨.int .i64 0, by simp [Builtin.len_, run_underlying hu, goInt], by simp only [VR, Tm.val, Dat.i_int]⟩
  · rename_i e id off n cap hu
    simp only [Option.some.injEq] at he
    subst he
    simp only [VR] at hx
    obtain ⟨b, κ, hb, rfl⟩ := hx
    exact ⟨.int .i64 n, by simp [Builtin.len_, run_underlying hu, goInt], by simp only [VR, Tm.val, Dat.i_int]⟩
  · rename_i e id off n cap hu
    simp only [Option.some.injEq] at he
    subst he
    simp only [VR] at hx
    obtain ⟨b, κ, hb, hv⟩ := hx
    obtain ⟨a, m, c, hm, rfl⟩ := hv.len
    exact ⟨.int .i64 m, by simp [Builtin.len_, run_underlying hu, goInt], by simp only [VR, hm]⟩
  · rename_i e id off n hu
    simp only [Option.some.injEq] at he
    subst he
    simp only [VR] at hx
    obtain ⟨b, κ, hb, hv⟩ := hx
    obtain ⟨a, m, c, hm, rfl⟩ := hv.len
    exact ⟨.int .i64 m, by simp [Builtin.len_, run_underlying hu, goInt], by simp only [VR, hm]⟩
  · rename_i e j hu
    simp only [Option.some.injEq] at he
    subst he
    simp only [VR] at hx
    obtain ⟨b, n, c, hn, rfl⟩ := hx
    refine ⟨.int .i64 n, by simp [Builtin.len_, run_underlying hu, goInt], ?_⟩
    simp only [VR, hn]
  · rename_i e hu
    simp only [Option.some.injEq] at he
    subst he
    simp only [VR] at hx
    obtain ⟨a, c, rfl⟩ := hx
    exact ⟨.int .i64 0, by simp [Builtin.len_, run_underlying hu, goInt], by simp only [VR, Tm.val, Dat.i_int]⟩
  · rename_i k e hu
    simp only [Option.some.injEq] at he
    subst he
    simp only [VR] at hx
    subst hx
    exact ⟨.int .i64 0, by simp [Builtin.len_, run_underlying hu, goInt], by simp only [VR, Tm.val, Dat.i_int]⟩
  · rename_i k e id hu
    split at he
    · rename_i es clock ho
      simp only [Option.some.injEq] at he
      subst he
      simp only [VR] at hx
      obtain ⟨b, κ, hb, rfl⟩ := hx
      obtain ⟨b2, κ2, hb2, hlive⟩ := h.obj id _ ho
      rw [hb] at hb2
      simp only [Option.some.injEq, Prod.mk.injEq] at hb2
      obtain ⟨rfl, rfl⟩ := hb2
      obtain ⟨ob, hob, l, hr, rfl⟩ := hlive rfl
      have hll : l.length = es.length := by
        clear hob ho hlive
        induction es generalizing l with
        | nil => simp only [ERs] at hr; simp [hr]
        | cons x xs ih =>
          obtain ⟨k, v, n⟩ := x
          simp only [ERs] at hr
          obtain ⟨y, ys, _, _, _, h4, rfl⟩ := hr
          simp [ih _ h4]
      refine ⟨.int .i64 es.length, ?_, by simp only [VR, Tm.val, Dat.i_int]⟩
      have hg : (getObj b).run P w = .ok (.map l.toArray clock) w := by simp [getObj, Sem.run, hob]
      simp [Builtin.len_, run_underlying hu, goInt, hg, hll]
    · cases he
  · rename_i n e hu
    simp only [Option.some.injEq] at he
    subst he
    exact ⟨.int .i64 n, by simp [Builtin.len_, run_underlying hu, goInt], by simp only [VR, Tm.val, Dat.i_int]⟩
  · cases he
end
end
end Go.Sy
