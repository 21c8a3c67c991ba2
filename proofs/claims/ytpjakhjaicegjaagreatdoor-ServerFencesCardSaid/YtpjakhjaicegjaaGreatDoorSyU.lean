/- The keys of a map of uint64s: the plain part (turned from the library's words for ints). No program. -/
import Derived.Test.YtpjakhjaicegjaaGreatDoorSyK
import Derived.RangeFuncGives
import Derived.RangeFuncBound
namespace Go.Sy
open Go.RowKit Go.Maps
/-- A uint64 as a value. -/
abbrev encU : Int → Value := Value.int .u64
theorem encU_inj {x y : Int} (h : encU x = encU y) : x = y := by simpa [encU] using h
theorem keyOf_u64 {P : Program} {k : TypeId} (hk : P.underlying k = some (.int .u64)) {key : Value} {kl : Lit} (h : keyOf P k key = some kl) : ∃ x : Int, key = encU x ∧ kl = .int .u64 x ∧ (Lit.int .u64 x).wf = true := by
  cases key <;> simp [keyOf, hk, mapKey] at h
  rename_i q a
  obtain ⟨⟨rfl, hw⟩, rfl⟩ := h
  exact ⟨a, rfl, rfl, hw⟩
/-- No key twice; a key is there just where the map has it and it is no longer to come. -/
def CollectedU {H : Type} (D0 : DataW H) (left : Lit → Bool) (ss : List Int) : Prop := ss.Nodup ∧ ∀ x, x ∈ ss ↔ (has D0 (.int .u64 x) = true ∧ left (.int .u64 x) = false)
section
variable {H : Type} {D0 : DataW H} {left : Lit → Bool} {ss : List Int}
theorem CollectedU.start (D0 : DataW H) : CollectedU D0 (has D0) [] := ⟨List.nodup_nil, fun x => by cases has D0 (.int .u64 x) <;> simp⟩
theorem CollectedU.step (h : CollectedU D0 left ss) {x : Int} {y : DataW H} (hlk : left (.int .u64 x) = true) (hat : ∀ zd, D0.atKey (.int .u64 x) zd = y) : CollectedU D0 (fun z => left z && !z.sameKey (.int .u64 x)) (ss ++ [x]) := by
  have hhas : has D0 (.int .u64 x) = true := has_true_of_atKey hat
  have hnew : x ∉ ss := fun hx => by have := ((h.2 x).1 hx).2; rw [hlk] at this; cases this
  refine ⟨List.nodup_append.2 ⟨h.1, by simp, fun a ha b hb => by simp at hb; subst hb; exact fun e => hnew (e ▸ ha)⟩, fun y => ?_⟩
  by_cases hy : y = x
  · subst hy; simp [hhas, Lit.sameKey]
  · simp [h.2 y, hy, Lit.sameKey]
variable {P : Program} {k : TypeId} {R : Value → Option (DataW H × List MemPlace)} {w : World} {b n : Nat}
/-- At the end: all keys, each once. -/
theorem CollectedU.perm (h : CollectedU D0 left ss) (hown : w.ownsMap P k R b n D0) (K : Keyed P k) (hk : P.underlying k = some (.int .u64)) (hl : ∀ kl, left kl = false) : ss.Perm (intKeys D0) := by
  obtain ⟨es, hD, hpw, _⟩ := hown.entries K
  obtain ⟨es', hD', hko⟩ := hown.keysOf
  obtain rfl : es = es' := by rw [hD] at hD'; simpa using hD'
  subst hD
  have hlit : ∀ p ∈ es, ∃ x, p.1 = .int .u64 x := fun p hp => by obtain ⟨v, hv⟩ := hko p hp; obtain ⟨x, _, hx, _⟩ := keyOf_u64 hk hv; exact ⟨x, hx⟩
  refine (List.perm_ext_iff_of_nodup h.1 ?_).2 fun x => ?_
  · show (es.map fun p => intOf p.1).Nodup
    refine List.pairwise_map.2 (hpw.imp_of_mem fun {p q} hp hq hne e => hne ?_)
    obtain ⟨a, ha⟩ := hlit p hp
    obtain ⟨c, hc⟩ := hlit q hq
    rw [ha, hc] at e ⊢
    exact congrArg _ e
  · rw [h.2 x, hl, has_eq, List.any_eq_true]
    show _ ↔ x ∈ es.map fun p => intOf p.1
    rw [List.mem_map]
    constructor
    · rintro ⟨⟨p, hp, hs⟩, _⟩
      obtain ⟨a, ha⟩ := hlit p hp
      rw [ha] at hs
      exact ⟨p, hp, by rw [ha]; simpa [Lit.sameKey, intOf] using hs⟩
    · rintro ⟨p, hp, rfl⟩
      obtain ⟨a, ha⟩ := hlit p hp
      exact ⟨⟨p, hp, by rw [ha]; simp [Lit.sameKey, intOf]⟩, rfl⟩
end

noncomputable section
variable {S : Sg}
theorem SeqGives.upto {α : Type} {F : Fence} {n : Nat} {P : Program} {g : Nat} {lb : Array Value} {enc : α → Value} {T : List α → Prop} {N N' : Nat} {w : World} (h : SeqGives F n P g lb enc T N w) (hle : N ≤ N') : SeqGives F n P g lb enc T N' w :=
  fun l J W hW hJ hY h0 => h l J W hW hJ (fun pre x W1 hj hl => hY pre x W1 hj (Nat.lt_of_lt_of_le hl hle)) h0

/-- What was there and stays is taken in. -/
theorem rep_ro {F : Fix S} {A : Nat → Prop} {w0 w : World} {σ : Sig} {s s' : AS} {id b κ : Nat} {o : AObj} {ob : Obj} (h : Rep F A w0 σ w s) (hs : s.new o = some (id, s')) (ho : o.own = false)
    (hb : b < w0.heap.size) (hA : ¬ A b) (hblk : w.heap[b]? = some ob) (hr : OR F (σ.upd id (b, κ)) κ o ob) :
    σ.le (σ.upd id (b, κ)) ∧ (σ.upd id (b, κ)) id = some (b, κ) ∧ Rep F A w0 (σ.upd id (b, κ)) w s' := by
  obtain ⟨φ, h⟩ := h
  obtain ⟨h0, hg⟩ := AS.get_new hs
  have hle := Sig.le_upd (b, κ) (h.fresh _ h0)
  refine ⟨hle, Sig.upd_same _ _ _, fun j x => if j = id then False else φ j x, h.kept, ?_, ?_, ?_, ?_, ?_⟩
  · intro j p hp
    rw [hg] at hp
    split at hp
    · rename_i e; subst e
      simp only [Option.some.injEq] at hp
      subst hp
      exact ⟨b, κ, Sig.upd_same _ _ _, fun hl => LR.mk (ob := ob) hblk hr (fun x hx => by simp at hx) hl, fun hx => by rw [ho] at hx; cases hx⟩
    · rename_i hne
      obtain ⟨b', κ', h1, h2, h3⟩ := h.obj j p hp
      simp only [hne, if_false]
      exact ⟨b', κ', hle _ _ h1, fun hl => (h2 hl).mono hle, h3⟩
  · intro j p hp hown x hx
    rw [hg] at hp
    split at hp
    · simp only [Option.some.injEq] at hp; subst hp; rw [ho] at hown; cases hown
    · rename_i hne
      simp only [hne, if_false] at hx
      exact h.own j p hp hown x hx
  · intro i j p q hij hp hq hown hqown x h1 h2
    rw [hg] at hp hq
    split at hp
    · simp only [Option.some.injEq] at hp; subst hp; rw [ho] at hown; cases hown
    · split at hq
      · simp only [Option.some.injEq] at hq; subst hq; rw [ho] at hqown; cases hqown
      · rename_i hi hj
        simp only [hi, if_false] at h1
        simp only [hj, if_false] at h2
        exact h.inj i j p q hij hp hq hown hqown x h1 h2
  · intro j p b' κ' hp hown hl hσ
    rw [hg] at hp
    split at hp
    · rename_i e; subst e
      rw [Sig.upd_same] at hσ
      simp only [Option.some.injEq, Prod.mk.injEq] at hσ
      obtain ⟨rfl, rfl⟩ := hσ
      exact ⟨hb, hA⟩
    · rename_i hne
      rw [Sig.upd_ne _ _ hne] at hσ
      exact h.ro j p b' κ' hp hown hl hσ
  · intro j hj
    rw [hg] at hj
    split at hj
    · cases hj
    · rename_i hne
      rw [Sig.upd_ne _ _ hne]
      exact h.fresh j hj

/-- One block that may change is taken in at the start. -/
theorem rep_start_own {F : Fix S} {w : World} {b κ n : Nat} {o : AObj} {ob : Obj} (ho : o.own = true) (hblk : w.heap[b]? = some ob)
    (hr : OR F (fun j => if j = 0 then some (b, κ) else none) κ o ob) {s : AS} (hs : s = ⟨Tr.set o 24 .nil 0, n⟩) :
    Rep F (fun k => k = b) w (fun j => if j = 0 then some (b, κ) else none) w s := by
  subst hs
  have h0 : (⟨.nil, 0⟩ : AS).new o = some (0, ⟨Tr.set o 24 .nil 0, 1⟩) := rfl
  have hg : ∀ j, (⟨Tr.set o 24 .nil 0, n⟩ : AS).get j = if j = 0 then some o else none := by
    intro j
    have := (AS.get_new h0).2 j
    have e : (⟨.nil, 0⟩ : AS).get j = none := Tr.get_nil _ _
    rw [e] at this
    exact this
  refine ⟨fun j x => j = 0 ∧ x = b, Kept.refl _ _, ?_, ?_, ?_, ?_, ?_⟩
  · intro j p hp
    rw [hg] at hp
    split at hp
    · rename_i e; subst e
      simp only [Option.some.injEq] at hp
      subst hp
      exact ⟨b, κ, by simp, fun hl => LR.mk hblk hr (fun x hx => hx.2) hl, fun _ => ⟨rfl, rfl⟩⟩
    · cases hp
  · intro j p _ _ x hx
    exact .inl hx.2
  · intro i j p q hij _ _ _ _ x h1 h2
    exact hij (h1.1.trans h2.1.symm)
  · intro j p b' κ' hp hown hl hσ
    rw [hg] at hp
    split at hp
    · simp only [Option.some.injEq] at hp
      subst hp
      rw [ho] at hown; cases hown
    · cases hp
  · intro j hj
    rw [hg] at hj
    split at hj
    · cases hj
    · rename_i e; simp [e]
def tellsRow (tK : TypeId) (r : Option (AV × AS)) : Bool := match r with
  | some (.tup [], s) => match s.get 0 with
    | some (.row [.int .u64 (.var 0)] e 1) => Nat.beq e tK
    | _ => false
  | _ => false
/-- A row of one number is sorted as it is. -/
theorem one_sorts {P : Program} {f tK n d : Nat} (hk : tellsRow tK (evCall P Facts.none n (fun _ _ _ => none) (fun _ _ _ _ => none) d f [.sl 0 0 1 (.rest 0)] ⟨Tr.set (.row [.int .u64 (.var 0)] tK 1) 24 .nil 0, 1⟩) = true)
    {blk cap : Nat} {x : Int} {cur : Array Value} {W : World} (h : W.heap[blk]? = some (.cells cur tK (0, 0))) (hx : cur.toList.take 1 = [encU x]) (h2 : cap ≤ maxLen) (h3 : cur.size = cap) :
    Calls P f #[.slice (some ⟨blk, 0, none⟩) 1 cap] W fun e w' => e = .returned (.tuple #[]) ∧ Kept (fun k => k = blk) W w' ∧ ∃ cur', w'.heap[blk]? = some (.cells cur' tK (0, 0)) ∧ cur'.toList.take 1 = [encU x] ∧ cur'.size = cap := by
  obtain ⟨F, hF⟩ : ∃ F : Fix Sg.bare, F = fun _ => .int x := ⟨_, rfl⟩
  have hrep := rep_start_own (F := F) (κ := cap) (n := 1) (o := .row [.int .u64 (.var 0)] tK 1) rfl h
    ⟨cur, by simp only [List.length_cons, List.length_nil, hx, VRs, VR, Tm.val, hF]; exact ⟨_, _, rfl, rfl, rfl⟩, rfl, by omega, h2⟩ rfl
  obtain ⟨s, hs, hrow⟩ : ∃ s, evCall P Facts.none n (fun _ _ _ => none) (fun _ _ _ _ => none) d f [.sl 0 0 1 (.rest 0)] ⟨Tr.set (.row [.int .u64 (.var 0)] tK 1) 24 .nil 0, 1⟩ = some (.tup [], s) ∧ s.get 0 = some (.row [.int .u64 (.var 0)] tK 1) := by
    unfold tellsRow at hk
    split at hk
    · rename_i s hr
      split at hk
      · rename_i e he
        obtain rfl := Nat.eq_of_beq_eq_true hk
        exact ⟨s, hr, he⟩
      · cases hk
    · cases hk
  have := (evCall_ok (facts_none F) (noLoops _ _ _ _) (none_ok _ _ W _) d f _ _ _ _ hs _ W [.slice (some ⟨blk, 0, none⟩) 1 cap]
    (by simp only [VRs, VR]; exact ⟨_, _, ⟨blk, cap, rfl, rfl⟩, rfl, by simp [CapE.val]⟩) hrep)
  refine this.mono ?_
  rintro e w' ⟨σ', rv, rfl, hv, hle, hrep⟩
  simp only [VR, VRs] at hv
  obtain ⟨_, rfl, rfl⟩ := hv
  refine ⟨rfl, hrep.kept, ?_⟩
  obtain ⟨b1, κ1, ob, h1, hob, arr, ha, rfl, hsz, _⟩ := hrep.box hrow rfl rfl
  rw [hle 0 (blk, cap) rfl] at h1
  simp only [Option.some.injEq, Prod.mk.injEq] at h1
  obtain ⟨rfl, rfl⟩ := h1
  simp only [List.length_cons, List.length_nil, VRs, VR, Tm.val, hF] at ha
  obtain ⟨_, _, rfl, rfl, ha⟩ := ha
  exact ⟨arr, hob, ha, by omega⟩

/-- What a seat shows of slices.Sorted at a map of uint64s with at most one key. -/
structure SortsOne (P : Program) (fS fI : FuncId) (tK : TypeId) : Prop where
  full : ∀ (w : World) (Bm b : Nat) (D0 : DataW Unit) (nn : Nat), Bm < w.heap.size → w.cell? ⟨Bm, 0, none⟩ = some (.map (some b)) → w.ownsMap P tK (fun _ => some ((.nil : DataW Unit), [])) b nn D0 → Maps.size D0 ≤ 1 →
    Calls P fS #[.func (.func fI) #[] #[.pointer (some ⟨Bm, 0, none⟩)]] w fun e w' => ∃ (v : Value) (ss : List Int), e = .returned v ∧ ss.Perm (intKeys D0) ∧ w'.ownsRow w.heap.size tK 1 v ss.length (ss.map encU) ∧ (v = .slice none 0 0 ↔ ss = []) ∧ Below w.heap.size w w'

def inU64 (i : Iv) : Bool := match i.lo, i.hi with
  | some a, some b => decide (0 ≤ a) && decide (b ≤ 18446744073709551615)
  | _, _ => false

def sortsOne (R : Facts) (fS fI : FuncId) (tK : TypeId) : CallF := fun f l s =>
  match Nat.beq f fS, l with
  | true, [.func (.func g) [] [.ptr id 0]] =>
    match Nat.beq g fI, s.get id with
    | true, some (.cells [.map m] _) =>
      match s.get m with
      | some (.map [] _) => some (.nilsl, s)
      | some (.map [(.int .u64 t, _, born)] c) =>
        match Nat.blt born c && inU64 (rng R t), s.new (.row [.int .u64 t] tK 1) with
        | true, some (id', s') => some (.sl id' 0 1 (.rest 0), s')
        | _, _ => none
      | _ => none
    | _, _ => none
  | _, _ => none

theorem kU64_keys (d : DataW Unit) : kU64.keys d = intKeys d := by cases d <;> rfl
theorem size_keys (d : DataW Unit) : Maps.size d = (intKeys d).length := by cases d <;> simp [Maps.size, intKeys]

theorem sortsOne_ok {P : Program} {R : Facts} {fS fI : FuncId} {tK : TypeId} (hk : P.underlying tK = some (.int .u64)) (C : SortsOne P fS fI tK) {F : Fix S} (hR : FOK F R) (A : Nat → Prop) (w0 : World) : CallOK F A w0 P (sortsOne R fS fI tK) := by
  intro f l s v s' he σ w vs hvs hrep
  unfold sortsOne at he
  split at he
  · rename_i g id hf
    obtain rfl : f = fS := Nat.eq_of_beq_eq_true hf
    split at he
    · rename_i m e hg hid
      obtain rfl : g = fI := Nat.eq_of_beq_eq_true hg
      simp only [VRs, VR] at hvs
      obtain ⟨y, ys, ⟨a, c, rfl, ⟨q, qs, ⟨bx, κx, hbx, rfl⟩, rfl, rfl⟩, rfl⟩, rfl, rfl⟩ := hvs
      obtain ⟨b1, κ1, ob, h1, hob, lx, hlx, rfl⟩ := hrep.box hid rfl rfl
      rw [hbx] at h1
      simp only [Option.some.injEq, Prod.mk.injEq] at h1
      obtain ⟨rfl, rfl⟩ := h1
      simp only [VRs, VR] at hlx
      obtain ⟨y, ys, ⟨bm, κm, hbm, rfl⟩, rfl, rfl⟩ := hlx
      have hcell : w.cell? ⟨bx, 0, none⟩ = some (.map (some bm)) := by simp [World.cell?, hob]
      have hlt := (Array.getElem?_eq_some_iff.mp hob).1
      split at he
      · rename_i clock hm
        simp only [Option.some.injEq, Prod.mk.injEq] at he
        obtain ⟨rfl, rfl⟩ := he
        obtain ⟨b2, κ2, ob2, h1, hob2, ms, hms, rfl⟩ := hrep.box hm rfl rfl
        rw [hbm] at h1
        simp only [Option.some.injEq, Prod.mk.injEq] at h1
        obtain ⟨rfl, rfl⟩ := h1
        simp only [ERs] at hms
        subst hms
        obtain ⟨D0, hown, _, hkeys⟩ := KK.owns' kU64_good hk (r := []) (ms := []) (c := clock) (by simp) (by simp) (by simp) hob2 (by simp)
        rw [kU64_keys] at hkeys
        have hz : Maps.size D0 ≤ 1 := by rw [size_keys, hkeys.length_eq]; simp
        refine (C.full w bx bm D0 _ hlt hcell hown hz).mono ?_
        rintro e w' ⟨v, ss, rfl, hp, hrow, hnil, hb⟩
        have : ss = [] := by simpa using hp.trans hkeys
        exact ⟨σ, v, rfl, by simp only [VR]; exact hnil.2 this, Sig.le_refl _, rep_below hrep hb⟩
      · rename_i t vv born clock hm
        split at he
        · rename_i id' s1 hc hnew
          simp only [Option.some.injEq, Prod.mk.injEq] at he
          obtain ⟨rfl, rfl⟩ := he
          simp only [Bool.and_eq_true] at hc
          obtain ⟨hc1, hc2⟩ := hc
          have hclk := Nat.blt_eq.mp hc1
          obtain ⟨b2, κ2, ob2, h1, hob2, ms, hms, rfl⟩ := hrep.box hm rfl rfl
          rw [hbm] at h1
          simp only [Option.some.injEq, Prod.mk.injEq] at h1
          obtain ⟨rfl, rfl⟩ := h1
          simp only [ERs, VR] at hms
          obtain ⟨y, ys, hy1, hy2, hy3, hys, rfl⟩ := hms
          subst hys
          have hrg := rng_ok hR t
          have hx : 0 ≤ (t.val F).i ∧ (t.val F).i ≤ 18446744073709551615 := by
            unfold inU64 at hc2
            split at hc2
            · rename_i a b ha hb
              simp only [Bool.and_eq_true, decide_eq_true_eq] at hc2
              have := hrg.1 a ha
              have := hrg.2 b hb
              omega
            · cases hc2
          obtain ⟨D0, hown, _, hkeys⟩ := KK.owns' kU64_good hk (r := [((t.val F).i, born)]) (ms := [y]) (c := clock) (by simp [hy1, hy3, kU64])
            (by simp [kU64, hclk, hx.1, hx.2]) (by simp) hob2 (by simp)
          rw [kU64_keys] at hkeys
          have hz : Maps.size D0 ≤ 1 := by rw [size_keys, hkeys.length_eq]; simp
          refine (C.full w bx bm D0 _ hlt hcell hown hz).mono ?_
          rintro e w' ⟨v, ss, rfl, hp, hrow, hnil, hb⟩
          obtain rfl : ss = [(t.val F).i] := by simpa using hp.trans hkeys
          rcases hrow.2 with ⟨rfl, h0⟩ | ⟨g', cap, cur, rfl, hg', hgb, r1, r2, r3, r4⟩
          · simp at h0
          · obtain ⟨hle, hrep'⟩ := rep_adopt (κ := cap) hrep hb hnew rfl hg' hgb ⟨cur, by
              simp only [List.length_cons, List.length_nil, Nat.mul_one] at r4 ⊢
              rw [r4]
              simp only [List.map_cons, List.map_nil, VRs, VR]
              exact ⟨_, _, rfl, rfl, rfl⟩, rfl, r3, r2⟩
            refine ⟨_, _, rfl, ?_, hle, hrep'⟩
            simp only [VR, CapE.val]
            exact ⟨_, _, Sig.upd_same _ _ _, by simp⟩
        · cases he
      · cases he
    · cases he
  · cases he
end
end Go.Sy
