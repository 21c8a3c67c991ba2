/- Addresses of fields and elements, parts, cuts, conversions, lengths, maps, iterators: the evaluator's and the model's agree. Conditions: the named integers lie in the ranges that were told. -/
import Derived.Test.YtmmigmalblephaaGreatDoorEv5
namespace Go.Sx
open Go.RowKit
noncomputable section

def AV.at_ : AV → Nat → Option AV
  | .ptr id off, k => some (.ptr id (off + k))
  | .gptr g off, k => some (.gptr g (off + k))
  | _, _ => none

def evFieldAddr (P : Program) (t : TypeId) (x : AV) (i : Nat) : Option AV :=
  match P.underlying t with
  | some (.struct fs) =>
    match fs[i]? with
    | some f =>
      match sizeT P f.type with
      | some 0 => none
      | some _ => x.at_ f.offset
      | none => none
    | none => none
  | _ => none

def evPart (P : Program) (t : TypeId) (cs : List AV) (off : Nat) : Option AV :=
  match isAggT P t with
  | some true => match sizeT P t with
    | some n => if off + n ≤ cs.length then some (.agg ((cs.drop off).take n)) else none
    | none => none
  | some false => cs[off]?
  | none => none

def evField (P : Program) (t : TypeId) (x : AV) (i : Nat) : Option AV :=
  match P.underlying t, x with
  | some (.struct fs), .agg cs =>
    match fs[i]? with
    | some f => evPart P f.type cs f.offset
    | none => none
  | _, _ => none

def evIndexAddr (P : Program) (t : TypeId) (x ix : AV) : Option AV :=
  match ix with
  | .int _ (.lit i) =>
    match P.underlying t, x with
    | some (.slice e), .sl id off len _ =>
      match sizeT P e with
      | some n => if 0 ≤ i ∧ i < len then some (.ptr id (off + i.toNat * n)) else none
      | none => none
    | some (.array len e), x =>
      match sizeT P e with
      | some n => if 0 ≤ i ∧ i < len then x.at_ (i.toNat * n) else none
      | none => none
    | _, _ => none
  | _ => none

def evIndex (P : Program) (t : TypeId) (x ix : AV) : Option AV :=
  match ix with
  | .int _ (.lit i) =>
    match P.underlying t, x with
    | some (.array len e), .agg cs =>
      match sizeT P e with
      | some n => if 0 ≤ i ∧ i < len then evPart P e cs (i.toNat * n) else none
      | none => none
    | some .string, .str s =>
      if 0 ≤ i then match s[i.toNat]? with
        | some b => some (.int .u8 (.lit b.toNat))
        | none => none
      else none
    | _, _ => none
  | _ => none

/-- A bound: absent, or a known number. -/
def bnd : Option AV → Option (Option Nat)
  | none => some none
  | some (.int _ (.lit i)) => if 0 ≤ i then some (some i.toNat) else none
  | _ => none

def evSlice (P : Program) (s : AS) (t : TypeId) (x : AV) (lo hi mx : Option AV) : Option AV :=
  match P.underlying t, bnd lo, bnd hi, bnd mx with
  | some (.slice e), some lo, some hi, some mx =>
    match sizeT P e, x with
    | some n, .sl id off len (.lit c) =>
      let m := mx.getD c
      let h := hi.getD len
      let l := lo.getD 0
      if m ≤ c ∧ h ≤ m ∧ l ≤ h ∧ (mx.isSome = true → hi.isSome = true) then some (.sl id (if m = l then off else off + l * n) (h - l) (.lit (m - l))) else none
    | some n, .sl id off len (.rest sub) =>
      let h := hi.getD len
      let l := lo.getD 0
      match s.get id with
      | some (.row vs _ n') =>
        if n' = n ∧ off = sub * n ∧ off + len * n ≤ vs.length ∧ 0 < n then
          match mx with
          | none => if h ≤ len ∧ l ≤ h ∧ (l = 0 ∨ l < len) then some (.sl id (off + l * n) (h - l) (.rest (sub + l))) else none
          | some m => if m ≤ len ∧ h ≤ m ∧ l ≤ h ∧ hi.isSome = true then some (.sl id (if m = l then off else off + l * n) (h - l) (.lit (m - l))) else none
        else none
      | _ => none
    | some _, .nilsl => if lo.getD 0 = 0 ∧ hi.getD 0 = 0 ∧ mx = none then some .nilsl else none
    | _, _ => none
  | some .string, some lo, some hi, some none =>
    match x with
    | .str s =>
      let h := hi.getD s.length
      let l := lo.getD 0
      if h ≤ s.length ∧ l ≤ h then some (.str ((s.take h).drop l)) else none
    | _ => none
  | _, _, _, _ => none

section
variable {F : Fix} {B : Nat} {w0 : World} {σ : Sig} {w : World} {s : AS} {P : Program} {R : Ranges}

theorem at_ok {x r : AV} {k : Nat} (h : x.at_ k = some r) {v : Value} (hx : VR F σ x v) : ∃ a : Addr, v = .pointer (some a) ∧ VR F σ r (.pointer (some (a.add k))) := by
  unfold AV.at_ at h
  split at h
  · simp only [Option.some.injEq] at h
    subst h
    simp only [VR] at hx ⊢
    obtain ⟨b, κ, hb, rfl⟩ := hx
    exact ⟨_, rfl, b, κ, hb, by rw [Addr.add_lit]⟩
  · simp only [Option.some.injEq] at h
    subst h
    simp only [VR] at hx ⊢
    subst hx
    exact ⟨_, rfl, by rw [Addr.add_lit]⟩
  · cases h

theorem fieldAddr_ok {t : TypeId} {x r : AV} {i : Nat} (h : evFieldAddr P t x i = some r) {v : Value} (hx : VR F σ x v) (w : World) :
    ∃ rv, (Instr.fieldAt t v i).run P w = .ok rv w ∧ VR F σ r rv := by
  unfold evFieldAddr at h
  split at h
  · rename_i fs hu
    split at h
    · rename_i f hf
      split at h
      · cases h
      · rename_i n hn hsz
        obtain ⟨a, rfl, hr⟩ := at_ok h hx
        refine ⟨_, ?_, hr⟩
        have h0 : n ≠ 0 := fun e => hn (by rw [e])
        simp [Instr.fieldAt, run_underlying hu, hf, Instr.sureAddr, fieldPlace, run_sizeT hsz, h0]
      · cases h
    · cases h
  · cases h

theorem part_ok {t : TypeId} {cs : List AV} {off : Nat} {r : AV} (h : evPart P t cs off = some r) {l : Array Value} (hx : VRs F σ cs l.toList) (w : World) :
    ∃ rv, (part t l off).run P w = .ok rv w ∧ VR F σ r rv := by
  unfold evPart at h
  split at h
  · rename_i hagg
    split at h
    · rename_i n hn
      split at h
      · simp only [Option.some.injEq] at h
        subst h
        refine ⟨.agg (l.extract off (off + n)), by simp [part, run_isAggT hagg, run_sizeT hn], ?_⟩
        simp only [VR]
        refine ⟨_, (hx.drop off).take n, ?_⟩
        congr 1
        apply Array.ext'
        simp [List.extract_eq_take_drop]
      · cases h
    · cases h
  · rename_i hagg
    obtain ⟨y, hy, hr⟩ := hx.get off r h
    refine ⟨y, ?_, hr⟩
    have hy' : l[off]? = some y := by simpa using hy
    simp [part, run_isAggT hagg, hy']
  · cases h

theorem field_ok {t : TypeId} {x r : AV} {i : Nat} (h : evField P t x i = some r) {v : Value} (hx : VR F σ x v) (w : World) :
    ∃ rv, (Instr.field t v i).run P w = .ok rv w ∧ VR F σ r rv := by
  unfold evField at h
  split at h
  · rename_i fs cs hu
    split at h
    · rename_i f hf
      simp only [VR] at hx
      obtain ⟨l, hl, rfl⟩ := hx
      obtain ⟨rv, h1, h2⟩ := part_ok h (l := l.toArray) (by simpa using hl) w
      exact ⟨rv, by simp [Instr.field, run_underlying hu, hf, asAgg, h1], h2⟩
    · cases h
  · cases h

theorem indexAddr_ok {t : TypeId} {x ix r : AV} (h : evIndexAddr P t x ix = some r) {v vi : Value} (hx : VR F σ x v) (hi : VR F σ ix vi) (w : World) :
    ∃ rv, (Instr.indexAt t v vi).run P w = .ok rv w ∧ VR F σ r rv := by
  unfold evIndexAddr at h
  split at h
  · rename_i k i
    simp only [VR, SI.val] at hi
    subst hi
    split at h
    · rename_i e id off len cap hu
      split at h
      · rename_i n hn
        split at h
        · rename_i hc
          simp only [Option.some.injEq] at h
          subst h
          simp only [VR] at hx
          obtain ⟨b, κ, hb, rfl⟩ := hx
          refine ⟨_, by simp [Instr.indexAt, run_underlying hu, asIntOf, hc, run_sizeT hn]; rfl, ?_⟩
          simp only [VR]
          exact ⟨b, κ, hb, by rw [Addr.add_lit]⟩
        · cases h
      · cases h
    · rename_i len e hu
      split at h
      · rename_i n hn
        split at h
        · rename_i hc
          obtain ⟨a, rfl, hr⟩ := at_ok h hx
          exact ⟨_, by simp [Instr.indexAt, run_underlying hu, asIntOf, hc, run_sizeT hn, Instr.sureAddr], hr⟩
        · cases h
      · cases h
    · cases h
  · cases h

theorem index_ok {t : TypeId} {x ix r : AV} (h : evIndex P t x ix = some r) {v vi : Value} (hx : VR F σ x v) (hi : VR F σ ix vi) (w : World) :
    ∃ rv, (Instr.index t v vi).run P w = .ok rv w ∧ VR F σ r rv := by
  unfold evIndex at h
  split at h
  · rename_i k i
    simp only [VR, SI.val] at hi
    subst hi
    split at h
    · rename_i len e cs hu
      split at h
      · rename_i n hn
        split at h
        · rename_i hc
          simp only [VR] at hx
          obtain ⟨l, hl, rfl⟩ := hx
          obtain ⟨rv, h1, h2⟩ := part_ok h (l := l.toArray) (by simpa using hl) w
          exact ⟨rv, by simp [Instr.index, run_underlying hu, asIntOf, hc, run_sizeT hn, h1], h2⟩
        · cases h
      · cases h
    · rename_i str hu
      split at h
      · rename_i h0
        split at h
        · rename_i b hb
          simp only [Option.some.injEq] at h
          subst h
          simp only [VR] at hx
          subst hx
          have hg : (bytesOf str)[i.toNat]? = some b := by
            have hlt := (List.getElem?_eq_some_iff.1 hb).1
            have hv := (List.getElem?_eq_some_iff.1 hb).2
            have hsz : (bytesOf str).size = str.length := by simp [bytesOf, ByteArray.size]
            rw [getElem?_pos (bytesOf str) i.toNat (by rw [hsz]; exact hlt)]
            congr 1
          refine ⟨.int .u8 b.toNat, by simp [Instr.index, run_underlying hu, asIntOf, h0, hg], by simp only [VR, SI.val]⟩
        · cases h
      · cases h
    · cases h
  · cases h

def OVR (F : Fix) (σ : Sig) : Option AV → Option Value → Prop
  | none, v => v = none
  | some x, some y => VR F σ x y
  | some _, none => False

theorem bnd_ok {o : Option AV} {m : Option Nat} (h : bnd o = some m) {v : Option Value} (hv : OVR F σ o v) :
    (m = none ∧ v = none) ∨ ∃ n k, m = some n ∧ v = some (.int k (n : Int)) := by
  cases o with
  | none =>
    simp only [bnd, Option.some.injEq] at h
    subst h
    exact .inl ⟨rfl, hv⟩
  | some x =>
    cases v with
    | none => exact hv.elim
    | some y =>
      cases x with
      | int k e =>
        cases e with
        | lit i =>
          simp only [bnd] at h
          split at h
          · rename_i h0
            simp only [Option.some.injEq] at h
            subst h
            simp only [OVR, VR, SI.val] at hv
            subst hv
            exact .inr ⟨i.toNat, k, rfl, by rw [Int.toNat_of_nonneg h0]⟩
          · cases h
        | var i => cases h
      | _ => cases h

theorem run_bounds (isSlice : Bool) (len cap : Nat) {lo hi mx : Option Nat} {vl vh vm : Option Value} (hl : (lo = none ∧ vl = none) ∨ ∃ n k, lo = some n ∧ vl = some (.int k (n : Int)))
    (hh : (hi = none ∧ vh = none) ∨ ∃ n k, hi = some n ∧ vh = some (.int k (n : Int))) (hm : (mx = none ∧ vm = none) ∨ ∃ n k, mx = some n ∧ vm = some (.int k (n : Int)))
    (h1 : mx.getD cap ≤ cap) (h2 : hi.getD len ≤ mx.getD cap) (h3 : lo.getD 0 ≤ hi.getD len) (h4 : mx.isSome = true → hi.isSome = true) (w : World) :
    (Instr.sliceBounds isSlice len cap vl vh vm).run P w = .ok (lo.getD 0, hi.getD len, mx.getD cap) w := by
  have sb : ∀ (k : IntKind) (n y : Nat) (code : BoundsCode), n ≤ y → (Instr.sliceBound (.int k (n : Int)) y code).run P w = .ok n w := by
    intro k n y code hn
    have := run_sliceBound (P := P) (w := w) k (n : Int) y code (by omega) (by omega)
    simpa using this
  rcases hl with ⟨rfl, rfl⟩ | ⟨l, kl, rfl, rfl⟩ <;> rcases hh with ⟨rfl, rfl⟩ | ⟨h, kh, rfl, rfl⟩ <;> rcases hm with ⟨rfl, rfl⟩ | ⟨m, km, rfl, rfl⟩ <;>
    simp only [Option.getD_some, Option.getD_none, Option.isSome_some, Option.isSome_none, forall_const, Bool.false_eq_true] at h1 h2 h3 h4 <;>
    simp [Instr.sliceBounds, sb, h1, h2, h3]

theorem slice_ok {t : TypeId} {x r : AV} {lo hi mx : Option AV} (h : evSlice P s t x lo hi mx = some r) {v : Value} {vl vh vm : Option Value} (hx : VR F σ x v) (hl : OVR F σ lo vl) (hh : OVR F σ hi vh) (hm : OVR F σ mx vm)
    (hrep : Rep F B w0 σ w s) : ∃ rv, (Instr.sliceAt t v vl vh vm).run P w = .ok rv w ∧ VR F σ r rv := by
  have hsa : ∀ x, (Instr.sliceAt t x vl vh vm) = (do match ← underlying t with
      | .array n elem =>
        let a ← Instr.sureAddr x
        let (l, h, m) ← Instr.sliceBounds false n n vl vh vm
        let size ← sizeOf elem
        pure (.slice (some (if m = l then a else a.add (l * size))) (h - l) (m - l))
      | _ => Instr.slice t x vl vh vm) := fun _ => rfl
  unfold evSlice at h
  split at h
  · rename_i e nl nh nm hu hbl hbh hbm
    have bl := bnd_ok hbl hl
    have bh := bnd_ok hbh hh
    have bm := bnd_ok hbm hm
    split at h
    · rename_i n id off len c hn
      simp only [] at h
      split at h
      · rename_i hc
        obtain ⟨h1, h2, h3, h4⟩ := hc
        simp only [Option.some.injEq] at h
        subst h
        simp only [VR, CapE.val] at hx
        obtain ⟨b, κ, hb, rfl⟩ := hx
        have hrun := run_bounds (P := P) true len c bl bh bm h1 h2 h3 h4 w
        refine ⟨_, by simp [hsa, Instr.slice, run_underlying hu, hrun, run_sizeT hn]; rfl, ?_⟩
        simp only [VR, CapE.val]
        refine ⟨b, κ, hb, ?_⟩
        split
        · rfl
        · simp [Addr.add_lit]
      · cases h
    · rename_i n id off len sub hn
      simp only [] at h
      split at h
      · rename_i vs e' n' ho
        split at h
        · rename_i hc
          obtain ⟨rfl, rfl, hlen, hn0⟩ := hc
          simp only [VR, CapE.val] at hx
          obtain ⟨b, κ, hb, rfl⟩ := hx
          obtain ⟨b2, κ2, hb2, hlive⟩ := hrep.obj id _ ho
          rw [hb] at hb2
          simp only [Option.some.injEq, Prod.mk.injEq] at hb2
          obtain ⟨rfl, rfl⟩ := hb2
          obtain ⟨ob, hob, arr, hr, rfl, hsz, hκ⟩ := hlive rfl
          have hvl := hr.length
          simp only [List.length_take, Array.length_toList] at hvl
          have hκ2 : sub + len ≤ κ := by
            have : (sub + len) * n' ≤ κ * n' := by rw [Nat.add_mul]; omega
            exact Nat.le_of_mul_le_mul_right this hn0
          split at h
          · split at h
            · rename_i hc2
              obtain ⟨h1, h2, h3⟩ := hc2
              simp only [Option.some.injEq] at h
              subst h
              have hrun := run_bounds (P := P) true len (κ - sub) bl bh bm (by simp) (by simp only [Option.getD_none]; omega) h2 (by simp) w
              refine ⟨_, by simp [hsa, Instr.slice, run_underlying hu, hrun, run_sizeT hn]; rfl, ?_⟩
              simp only [VR, CapE.val]
              refine ⟨b, κ, hb, ?_⟩
              have e1 : κ - sub - nl.getD 0 = κ - (sub + nl.getD 0) := by omega
              rw [e1]
              congr 1
              split
              · rename_i h4
                have : nl.getD 0 = 0 := by omega
                simp [this]
              · simp [Addr.add_lit]
            · cases h
          · rename_i m
            split at h
            · rename_i hc2
              obtain ⟨h1, h2, h3, h4⟩ := hc2
              simp only [Option.some.injEq] at h
              subst h
              have hrun := run_bounds (P := P) true len (κ - sub) bl bh bm (by simp only [Option.getD_some]; omega) (by simpa using h2) h3 (fun _ => h4) w
              refine ⟨_, by simp [hsa, Instr.slice, run_underlying hu, hrun, run_sizeT hn]; rfl, ?_⟩
              simp only [VR, CapE.val]
              refine ⟨b, κ, hb, ?_⟩
              split
              · rfl
              · simp [Addr.add_lit]
            · cases h
        · cases h
      · cases h
    · rename_i n hn
      split at h
      · rename_i hc
        obtain ⟨h1, h2, h3⟩ := hc
        simp only [Option.some.injEq] at h
        subst h h3
        simp only [VR] at hx
        subst hx
        have hrun := run_bounds (P := P) true 0 0 bl bh bm (by simp) (by simp only [Option.getD_none]; omega) (by omega) (by simp) w
        refine ⟨_, by simp [hsa, Instr.slice, run_underlying hu, hrun, run_sizeT hn]; rfl, ?_⟩
        simp only [VR, h1, h2]
      · cases h
    · cases h
  · rename_i nl nh hu hbl hbh hbm
    have bl := bnd_ok hbl hl
    have bh := bnd_ok hbh hh
    have bm := bnd_ok hbm hm
    split at h
    · rename_i str
      simp only [] at h
      split at h
      · rename_i hc
        simp only [Option.some.injEq] at h
        subst h
        simp only [VR] at hx
        subst hx
        have hsz : (bytesOf str).size = str.length := by simp [bytesOf, ByteArray.size]
        obtain ⟨_, rfl⟩ | ⟨_, _, h5, _⟩ := bm
        · have hrun := run_bounds (P := P) false str.length str.length bl bh (.inl ⟨rfl, rfl⟩) (by simp) (by simpa using hc.1) hc.2 (by simp) w
          refine ⟨.string ((bytesOf str).extract (nl.getD 0) (nh.getD str.length)), by simp [hsa, Instr.slice, run_underlying hu, hsz, hrun], ?_⟩
          simp only [VR, Value.string.injEq]
          apply ByteArray.ext
          apply Array.ext'
          simp [bytesOf, List.extract_eq_take_drop, List.drop_take]
        · cases h5
      · cases h
    · cases h
  · cases h
end
end
end Go.Sx
