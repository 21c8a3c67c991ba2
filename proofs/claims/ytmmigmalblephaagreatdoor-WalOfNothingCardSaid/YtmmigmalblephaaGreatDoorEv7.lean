/- Conversions, lengths, maps, iterators: the evaluator's and the model's agree. Conditions: the named integers lie in the ranges that were told. -/
import Derived.Test.YtmmigmalblephaaGreatDoorEv6
import Derived.Laws.IdiomStrings
namespace Go.Sx
open Go.RowKit
noncomputable section

def evUn (op : UnOp) (x : AV) : Option AV :=
  match op, x with
  | .not, .bool b => some (.bool !b)
  | .neg, .int k (.lit n) => some (.int k (.lit (wrapF k (0 - n))))
  | .xor, .int k (.lit n) => match evIntOp .xor k (if k.signed then -1 else k.max) n with
    | some m => some (.int k (.lit m))
    | none => none
  | _, _ => none

def evConvInt (R : Ranges) (k : IntKind) : SI → Option SI
  | .lit n => some (.lit (wrapF k n))
  | .var i => match rlook R i with
    | some (a, b) => if k.min ≤ a ∧ b ≤ k.max then some (.var i) else none
    | none => none

def evConvert (P : Program) (R : Ranges) (s : AS) (src dst : TypeId) (x : AV) : Option (AV × AS) :=
  match P.underlying src, P.underlying dst, x with
  | some _, some (.int k), .int _ e => match evConvInt R k e with
    | some e' => some (.int k e', s)
    | none => none
  | some _, some .string, .str b => some (.str b, s)
  | some .string, some (.slice e), .str b =>
    match P.underlying e with
    | some (.int .u8) =>
      match s.new (.fro (b.map byteA) e) with
      | some (id, s') => some (.sl id 0 b.length (.rest 0), s')
      | none => none
    | _ => none
  | some (.slice e0), some (.slice e), .sl id off len cap =>
    if src = dst ∧ e0 = e then
      match P.underlying e, s.get id with
      | some (.int .u8), some (.cells vs e') => match s.put id (.fro vs e') with
        | some s' => some (.sl id off len cap, s')
        | none => none
      | _, _ => none
    else none
  | _, _, _ => none

def evLen (P : Program) (s : AS) (t : TypeId) (x : AV) : Option AV :=
  match P.underlying t, x with
  | some .string, .str b => some (.int .i64 (.lit b.length))
  | some (.slice _), .nilsl => some (.int .i64 (.lit 0))
  | some (.slice _), .sl _ _ n _ => some (.int .i64 (.lit n))
  | some (.slice _), .dsl _ _ d _ => some (.int .i64 (.var (1000 + 2 * d)))
  | some (.slice _), .arg _ d => some (.int .i64 (.var (1000 + 2 * d)))
  | some (.slice _), .argl j => some (.int .i64 (.var j))
  | some (.slice _), .argz => some (.int .i64 (.lit 0))
  | some (.map _ _), .nilmap => some (.int .i64 (.lit 0))
  | some (.map _ _), .map id => match s.get id with
    | some (.map es _) => some (.int .i64 (.lit es.length))
    | _ => none
  | some (.array n _), _ => some (.int .i64 (.lit n))
  | _, _ => none

/-- Keys of a map: where one stands, if that can be told. -/
def keyEq (R : Ranges) (kd : TypeDesc) (a b : AV) : Option Bool :=
  match kd, a, b with
  | .int _, .int k x, .int k' y => if k = k' then cmpSI R .eql x y else none
  | .string, .str x, .str y => some (x == y)
  | .bool, .bool x, .bool y => some (x == y)
  | _, _, _ => none

def findK (R : Ranges) (kd : TypeDesc) (k : AV) : List (AV × AV × Nat) → Nat → Option (Option (Nat × AV))
  | [], _ => some none
  | (k', v, _) :: es, i =>
    match keyEq R kd k k' with
    | some true => some (some (i, v))
    | some false => findK R kd k es (i + 1)
    | none => none

def plainKey : TypeDesc → Bool
  | .int _ | .string | .bool => true
  | _ => false

section
variable {F : Fix} {B : Nat} {w0 : World} {σ : Sig} {w : World} {s : AS} {P : Program} {R : Ranges}

theorem un_ok {op : UnOp} {x r : AV} (h : evUn op x = some r) {v : Value} (hx : VR F σ x v) (w : World) : ∃ rv, (Op.unary op v).run P w = .ok rv w ∧ VR F σ r rv := by
  unfold evUn at h
  split at h
  · simp only [Option.some.injEq] at h
    subst h
    simp only [VR] at hx
    subst hx
    exact ⟨_, rfl, by simp only [VR]⟩
  · simp only [Option.some.injEq] at h
    subst h
    simp only [VR] at hx
    subst hx
    exact ⟨_, rfl, by simp only [VR, SI.val, wrapF_eq]⟩
  · split at h
    · rename_i k n m hm
      simp only [Option.some.injEq] at h
      subst h
      simp only [VR, SI.val] at hx
      subst hx
      simp only [evIntOp, Option.some.injEq, wrapF_eq] at hm
      subst hm
      exact ⟨_, rfl, by simp only [VR, SI.val]⟩
    · cases h
  · cases h

theorem convInt_ok (hR : RangeOK F R) {k : IntKind} {e e' : SI} (h : evConvInt R k e = some e') : k.wrap (e.val F.ρ) = e'.val F.ρ := by
  cases e with
  | lit n => simp only [evConvInt, Option.some.injEq, wrapF_eq] at h; subst h; rfl
  | var i =>
    simp only [evConvInt] at h
    split at h
    · rename_i a b hab
      split at h
      · rename_i hc
        simp only [Option.some.injEq] at h
        subst h
        obtain ⟨h1, h2⟩ := hR i a b hab
        exact wrap_in k _ (by simp only [SI.val]; omega) (by simp only [SI.val]; omega)
      · cases h
    · cases h

theorem VRs.bytes (l : List UInt8) : VRs F σ (l.map byteA) (l.map byteV) := by
  induction l with
  | nil => simp [VRs]
  | cons b l ih => simp only [List.map_cons, VRs]; exact ⟨_, _, by simp [byteA, byteV, VR, SI.val], ih, rfl⟩

theorem convert_ok (hR : RangeOK F R) (h : Rep F B w0 σ w s) {src dst : TypeId} {x r : AV} {s' : AS} (he : evConvert P R s src dst x = some (r, s')) {v : Value} (hx : VR F σ x v) :
    ∃ σ' w' rv, (convert src dst v).run P w = .ok rv w' ∧ VR F σ' r rv ∧ σ.le σ' ∧ Rep F B w0 σ' w' s' := by
  unfold evConvert at he
  split at he
  · rename_i d1 k k' e hs hd
    split at he
    · rename_i e' hc
      simp only [Option.some.injEq, Prod.mk.injEq] at he
      obtain ⟨rfl, rfl⟩ := he
      simp only [VR] at hx
      subst hx
      refine ⟨σ, w, .int k (e'.val F.ρ), ?_, by simp only [VR], Sig.le_refl _, h⟩
      have hw := convInt_ok hR hc
      rw [run_convert_int w src dst k' _ (by simp [hs]) (by simp [Program.intKind, hd])]
      simp [Program.intKind, hd, hw]
    · cases he
  · rename_i d1 b hs hd
    simp only [Option.some.injEq, Prod.mk.injEq] at he
    obtain ⟨rfl, rfl⟩ := he
    have hx' := hx
    simp only [VR] at hx
    subst hx
    refine ⟨σ, w, .string (bytesOf b), ?_, hx', Sig.le_refl _, h⟩
    simp [convert, run_underlying hs, run_underlying hd]
  · rename_i e b hs hd
    split at he
    · rename_i hu
      split at he
      · rename_i id s1 hnew
        simp only [Option.some.injEq, Prod.mk.injEq] at he
        obtain ⟨rfl, rfl⟩ := he
        simp only [VR] at hx
        subst hx
        have hsz : (bytesOf b).size = b.length := by simp [bytesOf, ByteArray.size]
        have hrun := run_bytes_of_string (P := P) w src dst e (bytesOf b) hs hd hu
        rw [hsz] at hrun
        obtain ⟨hle, hrep⟩ := h.drew.new hnew rfl (κ := grownCap w b.length 0 e) (ob := .cells (bytesRow (bytesOf b) (grownCap w b.length 0 e)) e _)
          ⟨_, _, by
            have e1 : (bytesRow (bytesOf b) (grownCap w b.length 0 e)).toList.take (b.map byteA).length = b.map byteV := by
              simp [bytesRow, bytesOf, byteV]
            rw [e1]
            exact VRs.bytes b, rfl⟩
        refine ⟨_, _, _, hrun, ?_, hle, hrep⟩
        simp only [VR, CapE.val]
        exact ⟨_, _, Sig.upd_same _ _ _, rfl⟩
      · cases he
    · cases he
  · rename_i e0 e id off len cap hs hd
    split at he
    · rename_i hc
      obtain ⟨rfl, rfl⟩ := hc
      split at he
      · rename_i vs e' hu ho
        split at he
        · rename_i s1 hp
          simp only [Option.some.injEq, Prod.mk.injEq] at he
          obtain ⟨rfl, rfl⟩ := he
          have hx' := hx
          simp only [VR] at hx
          obtain ⟨b, κ, hb, rfl⟩ := hx
          obtain ⟨b2, κ2, hb2, hlive⟩ := h.obj id _ ho
          rw [hb] at hb2
          simp only [Option.some.injEq, Prod.mk.injEq] at hb2
          obtain ⟨rfl, rfl⟩ := hb2
          obtain ⟨ob, hob, l, hr, rfl⟩ := hlive rfl
          have hsh : w.shape? b = some (e', l.toArray.size) := by simp [World.shape?, hob]
          have hlt : b < w.heap.size := (Array.getElem?_eq_some_iff.1 hob).1
          have hrep := h.put (w' := w.freeze ⟨b, l.toArray.size, none⟩ 1) (ob := .cells l.toArray e' (l.toArray.size, l.toArray.size + 1)) ho rfl hp rfl hb
            ⟨by simp [World.freeze], by simp [World.freeze], by simp [World.freeze], by simp [World.freeze], by
              simp [World.freeze, Array.getElem?_modify, hob], fun k hk => by simp [World.freeze, Array.getElem?_modify, Ne.symm hk]⟩
            ⟨l.toArray, _, by simpa [List.take_of_length_le (Nat.le_of_eq hr.length)] using hr, rfl⟩
          refine ⟨σ, _, _, ?_, hx', Sig.le_refl _, hrep⟩
          simp [convert, run_underlying hs, run_underlying hu, markStringish, hsh]
        · cases he
      · cases he
    · cases he
  · cases he

theorem len_ok (h : Rep F B w0 σ w s) {t ty : TypeId} {x r : AV} (he : evLen P s t x = some r) {v : Value} (hx : VR F σ x v) :
    ∃ rv, (Builtin.len_ #[t] ty #[v]).run P w = .ok rv w ∧ VR F σ r rv := by
  unfold evLen at he
  split at he
  · rename_i b hu
    simp only [Option.some.injEq] at he
    subst he
    simp only [VR] at hx
    subst hx
    have hsz : (bytesOf b).size = b.length := by simp [bytesOf, ByteArray.size]
    exact ⟨.int .i64 b.length, by simp [Builtin.len_, run_underlying hu, goInt, hsz], by simp only [VR, SI.val]⟩
  · rename_i e hu
    simp only [Option.some.injEq] at he
    subst he
    simp only [VR] at hx
    subst hx
    exact ⟨.int .i64 0, by simp [Builtin.len_, run_underlying hu, goInt], by simp only [VR, SI.val]⟩
  · rename_i e id off n cap hu
    simp only [Option.some.injEq] at he
    subst he
    simp only [VR] at hx
    obtain ⟨b, κ, hb, rfl⟩ := hx
    exact ⟨.int .i64 n, by simp [Builtin.len_, run_underlying hu, goInt], by simp only [VR, SI.val]⟩
  · rename_i e id off d cap hu
    simp only [Option.some.injEq] at he
    subst he
    simp only [VR] at hx
    obtain ⟨b, κ, hb, rfl⟩ := hx
    refine ⟨.int .i64 (F.δ d).length, by simp [Builtin.len_, run_underlying hu, goInt], ?_⟩
    simp only [VR, SI.val, F.len]
  · rename_i e id d hu
    simp only [Option.some.injEq] at he
    subst he
    simp only [VR] at hx
    obtain ⟨b, κ, hb, c, rfl⟩ := hx
    refine ⟨.int .i64 (F.δ d).length, by simp [Builtin.len_, run_underlying hu, goInt], ?_⟩
    simp only [VR, SI.val, F.len]
  · rename_i e j hu
    simp only [Option.some.injEq] at he
    subst he
    simp only [VR] at hx
    obtain ⟨b, n, c, hn, rfl⟩ := hx
    refine ⟨.int .i64 n, by simp [Builtin.len_, run_underlying hu, goInt], ?_⟩
    simp only [VR, SI.val, hn]
  · rename_i e hu
    simp only [Option.some.injEq] at he
    subst he
    simp only [VR] at hx
    obtain ⟨a, c, rfl⟩ := hx
    exact ⟨.int .i64 0, by simp [Builtin.len_, run_underlying hu, goInt], by simp only [VR, SI.val]⟩
  · rename_i k e hu
    simp only [Option.some.injEq] at he
    subst he
    simp only [VR] at hx
    subst hx
    exact ⟨.int .i64 0, by simp [Builtin.len_, run_underlying hu, goInt], by simp only [VR, SI.val]⟩
  · rename_i k e id hu
    split at he
    · rename_i es clock ho
      simp only [Option.some.injEq] at he
      subst he
      simp only [VR] at hx
      obtain ⟨b, κ, hb, rfl⟩ := hx
      obtain ⟨b2, κ2, hb2, hlive⟩ := h.obj id _ ho
      rw [hb] at hb2
      simp only [Option.some.injEq, Prod.mk.injEq] at hb2
      obtain ⟨rfl, rfl⟩ := hb2
      obtain ⟨ob, hob, l, hr, rfl⟩ := hlive rfl
      have hll : l.length = es.length := by
        clear hob ho hlive
        induction es generalizing l with
        | nil => simp only [ERs] at hr; simp [hr]
        | cons x xs ih =>
          obtain ⟨k, v, n⟩ := x
          simp only [ERs] at hr
          obtain ⟨y, ys, _, _, _, h4, rfl⟩ := hr
          simp [ih _ h4]
      refine ⟨.int .i64 es.length, ?_, by simp only [VR, SI.val]⟩
      have hg : (getObj b).run P w = .ok (.map l.toArray clock) w := by simp [getObj, Sem.run, hob]
      simp [Builtin.len_, run_underlying hu, goInt, hg, hll]
    · cases he
  · rename_i n e hu
    simp only [Option.some.injEq] at he
    subst he
    exact ⟨.int .i64 n, by simp [Builtin.len_, run_underlying hu, goInt], by simp only [VR, SI.val]⟩
  · cases he
end
end
end Go.Sx
