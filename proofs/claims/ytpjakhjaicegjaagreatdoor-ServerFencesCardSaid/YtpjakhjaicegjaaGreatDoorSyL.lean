/- Loops whose rounds leave memory as it is: names that a text does not use may change; a loop that goes round as often as its names tell. Conditions: those of the lemmas. -/
import Derived.Test.YtpjakhjaicegjaaGreatDoorSy15
namespace Go.Sy
open Go.RowKit
variable {S : Sg}

/-- Are all names of a term of a kind? -/
def Tm.only (p : Nat → Bool) : Tm → Bool
  | .lit _ | .bs _ | .bl _ => true
  | .var i => p i
  | .lsum _ a b | .mul a b | .div a b | .mod a b | .bin _ _ a b | .sh _ _ a b | .idx a b | .app a b | .pair a b | .lt a b | .le a b | .eq a b | .eqb a b | .and a b | .slt a b => a.only p && b.only p
  | .conv _ a | .len a | .one a | .zeros a | .fn _ a | .fst a | .snd a | .not a | .tab _ a => a.only p
  | .sub a b c => a.only p && b.only p && c.only p
theorem Tm.only_val {p : Nat → Bool} {F F' : Fix S} (hF : ∀ j, p j = true → F j = F' j) : ∀ {t : Tm}, t.only p = true → t.val F = t.val F' := by
  intro t
  induction t with
  | var i => intro h; exact hF i h
  | lit | bs | bl => intro _; rfl
  | lsum _ _ _ ia ib | mul _ _ ia ib | div _ _ ia ib | mod _ _ ia ib | bin _ _ _ _ ia ib | sh _ _ _ _ ia ib | idx _ _ ia ib | app _ _ ia ib | pair _ _ ia ib | lt _ _ ia ib | le _ _ ia ib | eq _ _ ia ib | eqb _ _ ia ib | and _ _ ia ib | slt _ _ ia ib =>
    intro h
    simp only [Tm.only, Bool.and_eq_true] at h
    simp only [Tm.val, ia h.1, ib h.2]
  | conv _ _ ia | len _ ia | one _ ia | zeros _ ia | fn _ _ ia | fst _ ia | snd _ ia | not _ ia | tab _ _ ia =>
    intro h
    simp only [Tm.only] at h
    simp only [Tm.val, ia h]
  | sub _ _ _ ia ib ic =>
    intro h
    simp only [Tm.only, Bool.and_eq_true] at h
    simp only [Tm.val, ia h.1.1, ib h.1.2, ic h.2]

mutual
def AV.only (p : Nat → Bool) : AV → Bool
  | .tb t | .int _ t | .ts t | .argl t | .opq t => t.only p
  | .vw _ a b _ | .rv _ a b => a.only p && b.only p
  | .dp _ a _ => a.only p
  | .func _ a c => AV.onlys p a && AV.onlys p c
  | .iface _ x => AV.only p x
  | .agg cs | .tup cs => AV.onlys p cs
  | _ => true
def AV.onlys (p : Nat → Bool) : List AV → Bool
  | [] => true
  | c :: cs => AV.only p c && AV.onlys p cs
end
section
variable {p : Nat → Bool} {F F' : Fix S} {σ : Sig} (hF : ∀ j, p j = true → F j = F' j)
include hF
theorem ViewAt.only {b base κ : Nat} {off len : Tm} {cap : CapV} {v : Value} (h1 : off.only p = true) (h2 : len.only p = true) (h : ViewAt F b base κ off len cap v) : ViewAt F' b base κ off len cap v := by
  unfold ViewAt at *
  rwa [Tm.only_val hF h1, Tm.only_val hF h2] at h
end
mutual
theorem VR.only {p : Nat → Bool} {F F' : Fix S} {σ : Sig} (hF : ∀ j, p j = true → F j = F' j) : ∀ (a : AV) (v : Value), a.only p = true → VR F σ a v → VR F' σ a v
  | .bool _, _, _, e | .str _, _, _, e | .nilptr, _, _, e | .gptr _ _, _, _, e | .nilsl, _, _, e | .nilmap, _, _, e | .nilFunc, _, _, e | .nilIface, _, _, e | .argz, _, _, e | .ptr _ _, _, _, e | .sl _ _ _ _, _, _, e | .map _, _, _, e => by
    simpa only [VR] using e
  | .tb t, _, h, e | .int _ t, _, h, e | .ts t, _, h, e | .argl t, _, h, e | .opq t, _, h, e => by
    simp only [AV.only] at h
    simpa only [VR, Tm.only_val hF h] using e
  | .vw _ a b _, _, h, e | .rv _ a b, _, h, e => by
    simp only [AV.only, Bool.and_eq_true] at h
    simp only [VR] at e ⊢
    obtain ⟨b, κ, hb, hv⟩ := e
    exact ⟨b, κ, hb, hv.only hF h.1 h.2⟩
  | .dp _ a _, _, h, e => by
    simp only [AV.only] at h
    simpa only [VR, Tm.only_val hF h] using e
  | .func _ a c, _, h, e => by
    simp only [AV.only, Bool.and_eq_true] at h
    simp only [VR] at e ⊢
    obtain ⟨l, m, ha, hc, hv⟩ := e
    exact ⟨l, m, VRs.only hF a l h.1 ha, VRs.only hF c m h.2 hc, hv⟩
  | .iface _ x, _, h, e => by
    simp only [AV.only] at h
    simp only [VR] at e ⊢
    obtain ⟨y, hy, hv⟩ := e
    exact ⟨y, VR.only hF x y h hy, hv⟩
  | .agg cs, _, h, e | .tup cs, _, h, e => by
    simp only [AV.only] at h
    simp only [VR] at e ⊢
    obtain ⟨l, hl, hv⟩ := e
    exact ⟨l, VRs.only hF cs l h hl, hv⟩
theorem VRs.only {p : Nat → Bool} {F F' : Fix S} {σ : Sig} (hF : ∀ j, p j = true → F j = F' j) : ∀ (a : List AV) (v : List Value), AV.onlys p a = true → VRs F σ a v → VRs F' σ a v
  | [], _, _, e => by simpa only [VRs] using e
  | c :: cs, _, h, e => by
    simp only [AV.onlys, Bool.and_eq_true] at h
    simp only [VRs] at e ⊢
    obtain ⟨y, ys, hy, hys, hv⟩ := e
    exact ⟨y, ys, VR.only hF c y h.1 hy, VRs.only hF cs ys h.2 hys, hv⟩
end
def entsOnly (p : Nat → Bool) : List (AV × AV × Nat) → Bool
  | [] => true
  | (k, v, _) :: l => k.only p && v.only p && entsOnly p l
def AObj.only (p : Nat → Bool) : AObj → Bool
  | .cells vs _ | .row vs _ _ | .fro vs _ => AV.onlys p vs
  | .data t _ | .rdata t => t.only p
  | .map es _ => entsOnly p es
  | .chunk _ args t => AV.onlys p args && t.only p
  | _ => true
section
variable {p : Nat → Bool} {F F' : Fix S} {σ : Sig} (hF : ∀ j, p j = true → F j = F' j)
include hF
theorem ERs.only : ∀ {es : List (AV × AV × Nat)} {l : List MapEntry}, entsOnly p es = true → ERs F σ es l → ERs F' σ es l
  | [], _, _, e => by simpa only [ERs] using e
  | (k, v, n) :: es, _, h, e => by
    simp only [entsOnly, Bool.and_eq_true] at h
    simp only [ERs] at e ⊢
    obtain ⟨y, ys, h1, h2, h3, h4, rfl⟩ := e
    exact ⟨y, ys, VR.only hF k _ h.1.1 h1, VR.only hF v _ h.1.2 h2, h3, ERs.only h.2 h4, rfl⟩
theorem OR.only {κ : Nat} {o : AObj} {ob : Obj} (h : o.only p = true) (e : OR F σ κ o ob) : OR F' σ κ o ob := by
  cases o with
  | cells vs t => obtain ⟨l, h1, h2⟩ := e; exact ⟨l, VRs.only hF _ _ h h1, h2⟩
  | row vs t n => obtain ⟨l, h1, h2⟩ := e; exact ⟨l, VRs.only hF _ _ h h1, h2⟩
  | fro vs t => obtain ⟨l, fr, h1, h2⟩ := e; exact ⟨l, fr, VRs.only hF _ _ h h1, h2⟩
  | data t x => have ht := Tm.only_val hF (t := t) h; simp only [OR] at e ⊢; rwa [ht] at e
  | rdata t => have ht := Tm.only_val hF (t := t) h; simp only [OR] at e ⊢; rwa [ht] at e
  | map es c => obtain ⟨l, h1, h2⟩ := e; exact ⟨l, ERs.only hF h h1, h2⟩
  | striter s q => exact e
  | mapiter m a b c => exact e
  | chunk c args t => exact e
  | dead => exact e
theorem LR.only {κ : Nat} {o : AObj} {b : Nat} {φ : Nat → Prop} {hp : Nat → Option Obj} (h : o.only p = true) (e : LR F σ κ o b φ hp) : LR F' σ κ o b φ hp := by
  cases o with
  | chunk c args t =>
    simp only [AObj.only, Bool.and_eq_true] at h
    obtain ⟨vs, h1, h2⟩ := e
    exact ⟨vs, VRs.only hF _ _ h.1 h1, by rwa [Tm.only_val hF h.2] at h2⟩
  | _ => obtain ⟨⟨ob, h1, h2⟩, h3⟩ := e; exact ⟨⟨ob, h1, h2.only hF h⟩, h3⟩
theorem Rep.only {A : Nat → Prop} {w0 w : World} {s : AS} (h : ∀ id o, s.get id = some o → o.only p = true) (e : Rep F A w0 σ w s) : Rep F' A w0 σ w s := by
  obtain ⟨φ, e⟩ := e
  refine ⟨φ, e.kept, fun id o ho => ?_, e.own, e.inj, e.ro, e.fresh⟩
  obtain ⟨b, κ, h1, h2, h3⟩ := e.obj id o ho
  exact ⟨b, κ, h1, fun hl => (h2 hl).only hF (h id o ho), h3⟩
end
noncomputable section
def Tr.allOnly (p : Nat → Bool) : Tr AObj → Bool
  | .nil => true
  | .node l o r => Tr.allOnly p l && (match o with | some x => x.only p | none => true) && Tr.allOnly p r
theorem Tr.allOnly_get {p : Nat → Bool} : ∀ {n : Nat} {t : Tr AObj} {k : Nat} {o : AObj}, Tr.allOnly p t = true → Tr.get n t k = some o → o.only p = true
  | 0, _, _, _, _, h => by cases h
  | _ + 1, .nil, _, _, _, h => by cases h
  | n + 1, .node l x r, 0, o, hp, h => by
    have h' : x = some o := h
    subst h'
    simp only [Tr.allOnly, Bool.and_eq_true] at hp
    exact hp.1.2
  | n + 1, .node l x r, k + 1, o, hp, h => by
    simp only [Tr.allOnly, Bool.and_eq_true] at hp
    have h' : @Nat.rec (fun _ => Option AObj) (Tr.get n r (Nat.pred (Nat.div (k + 1) 2))) (fun _ _ => Tr.get n l (Nat.div (k + 1) 2)) (Nat.mod (k + 1) 2) = some o := h
    generalize Nat.mod (k + 1) 2 = m at h'
    cases m with
    | zero => exact Tr.allOnly_get hp.2 h'
    | succ m => exact Tr.allOnly_get hp.1.1 h'
theorem AS.only_get {p : Nat → Bool} {s : AS} (h : Tr.allOnly p s.h = true) : ∀ id o, s.get id = some o → o.only p = true := fun _ _ ho => Tr.allOnly_get h ho

/-- A loop whose rounds leave memory as it is: so many rounds, then the last one. -/
theorem fold_loop {P : Program} {A : Nat → Prop} {w0 : World} {cf : CallF} {lf : LoopF} {N n : Nat} {c : Code} {R R' : Facts} {tm0 tm1 tm2 : Fr} {s : AS} {e : Ex} (Fam : Nat → Fix S) (K : Nat)
    (hcf : ∀ k, k ≤ K → CallOK (Fam k) A w0 P cf) (hlf : ∀ k, k ≤ K → ∀ x ∈ loopsOf c, LoopFits (Fam k) A w0 P N lf x)
    (hR : ∀ k, k < K → FOK (Fam k) R) (hR' : FOK (Fam K) R')
    (hgo : evCode P R cf lf n N c tm0 s = some (.normal, tm1, s)) (hend : evCode P R' cf lf n N c tm0 s = some (e, tm2, s)) (he : e ≠ .normal)
    (hs : ∀ k, k < K → ∀ σ w, Rep (Fam k) A w0 σ w s → Rep (Fam (k + 1)) A w0 σ w s)
    (ht : ∀ k, k < K → ∀ σ tmps, FR (Fam k) σ N tm1 tmps → FR (Fam (k + 1)) σ N tm0 tmps)
    {σ : Sig} {w : World} {a : Act} {Q : Exit → Act → World → Prop} (hrep : Rep (Fam 0) A w0 σ w s) (htm : FR (Fam 0) σ N tm0 a.tmps) (hd : a.defers = [])
    (hQ : ∀ σ' w' a', σ.le σ' → Rep (Fam K) A w0 σ' w' s → FR (Fam K) σ' N tm2 a'.tmps → a'.defers = [] → Q e.to a' w') : (Code.loop c).wp P Q a w := by
  have key : ∀ m k, k + m = K → ∀ σ1 w1 a1, σ.le σ1 → Rep (Fam k) A w0 σ1 w1 s → FR (Fam k) σ1 N tm0 a1.tmps → a1.defers = [] → Code.rounds P c Q (m + 1) a1 w1 := by
    intro m
    induction m with
    | zero =>
      intro k hk σ1 w1 a1 hle h1 h2 h3
      obtain rfl : k = K := by omega
      rw [rounds_succ]
      exact evCode_ok (hcf k (Nat.le_refl _)) hR' n c (hlf k (Nat.le_refl _)) tm0 s σ1 w1 a1 e tm2 s _ hend h1 h2 h3 fun σ' w' a' k1 k2 k3 k4 => then_of he (hQ σ' w' a' (Sig.le_trans hle k1) k2 k3 k4)
    | succ m ih =>
      intro k hk σ1 w1 a1 hle h1 h2 h3
      have hlt : k < K := by omega
      rw [rounds_succ]
      refine evCode_ok (hcf k (Nat.le_of_lt hlt)) (hR k hlt) n c (hlf k (Nat.le_of_lt hlt)) tm0 s σ1 w1 a1 .normal tm1 s _ hgo h1 h2 h3 fun σ' w' a' k1 k2 k3 k4 => ?_
      exact ih (k + 1) (by omega) σ' w' a' (Sig.le_trans hle k1) (hs k hlt σ' w' k2) (ht k hlt σ' _ k3) k4
  exact wp_loop_rounds (K + 1) (key K 0 (by omega) σ w a (Sig.le_refl _) hrep htm hd)
end
end Go.Sy
