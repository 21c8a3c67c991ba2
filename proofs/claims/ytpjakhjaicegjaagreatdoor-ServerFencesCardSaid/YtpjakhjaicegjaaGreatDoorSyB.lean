/- Bytes that stand in memory, for contracts of functions that read them. Conditions: none. -/
import Derived.Test.YtpjakhjaicegjaaGreatDoorSyL
import Derived.Test.YtpjakhjaicegjaaGreatDoorSyK
namespace Go.Sy
open Go.RowKit
variable {S : Sg}
noncomputable section
/-- A slice whose bytes are these. -/
def BytesAt (w : World) (v : Value) (l : List UInt8) : Prop :=
  (v = .slice none 0 0 ∧ l = []) ∨ ∃ a c, v = .slice (some a) l.length c ∧ l.length ≤ c ∧ ∀ j (hj : j < l.length), w.cell? (a.add j) = some (.int .u8 (l[j].toNat : Int))

/-- Is a slice's length told to be at most its capacity? -/
def capSure : AV → Bool
  | .nilsl | .argz | .vw _ _ _ _ | .rv _ _ _ => true
  | .sl _ _ len (.lit c) => Nat.ble len c
  | _ => false
section
variable {F : Fix S} {A : Nat → Prop} {w0 : World} {σ : Sig} {w : World} {s : AS} {R : Facts}
theorem capSure_ok {x : AV} (h : capSure x = true) {a : Option Addr} {n c : Nat} (hx : VR F σ x (.slice a n c)) : n ≤ c := by
  have key : ∀ {b base κ : Nat} {off len : Tm} {cap : CapV}, ViewAt F b base κ off len cap (.slice a n c) → n ≤ c := by
    rintro b base κ off len cap ⟨o, m, k, _, _, h⟩
    cases cap with
    | rest => obtain ⟨e, h1, h2⟩ := h; cases e; omega
    | tight => obtain ⟨e, h1⟩ := h; cases e; omega
    | any =>
      rcases h with ⟨e, h1⟩ | ⟨h1, a', e⟩
      · cases e; omega
      · cases e; omega
  unfold capSure at h
  split at h
  · simp only [VR] at hx; cases hx; omega
  · simp only [VR] at hx; obtain ⟨_, _, hx⟩ := hx; cases hx; omega
  · simp only [VR] at hx; obtain ⟨_, _, _, hx⟩ := hx; exact key hx
  · simp only [VR] at hx; obtain ⟨_, _, _, hx⟩ := hx; exact key hx
  · simp only [VR, CapE.val] at hx; obtain ⟨_, _, _, hx⟩ := hx; cases hx; exact Nat.le_of_ble_eq_true h
  · cases h
theorem bytesAt_of (hR : FOK F R) (h : Rep F A w0 σ w s) {x : AV} {t : Tm} (he : bytesSrc R s x = some t) (hc : capSure x = true) {v : Value} (hx : VR F σ x v) : BytesAt w v (t.val F).d := by
  rcases bytesSrc_ok hR h he hx with h1 | ⟨a, c, rfl, h1⟩
  · exact .inl h1
  · exact .inr ⟨a, c, rfl, capSure_ok hc hx, h1⟩
end
/-- Bytes, one or more of them, stand in one block. -/
theorem BytesAt.row {w : World} {v : Value} {l : List UInt8} (h : BytesAt w v l) (hl : l ≠ []) :
    ∃ (b off c : Nat) (arr : Array Value) (e : TypeId) (fr : Nat × Nat), v = .slice (some ⟨b, off, none⟩) l.length c ∧ l.length ≤ c ∧ b < w.heap.size ∧ w.heap[b]? = some (.cells arr e fr) ∧ (arr.toList.drop off).take l.length = l.map byteV := by
  rcases h with ⟨_, h⟩ | ⟨a, c, rfl, hc, h⟩
  · exact absurd h hl
  have hpos : 0 < l.length := List.length_pos_iff.2 hl
  have h0 := h 0 hpos
  obtain ⟨b, off, sp⟩ := a
  have hsp : sp = none := by
    cases sp with
    | none => rfl
    | some x =>
      exfalso
      unfold World.cell? at h0
      have e : ((⟨b, off, some x⟩ : Addr).add 0).spot.isSome = true := by simp [Addr.add]
      split at h0
      · rw [if_pos e] at h0; cases h0
      · cases h0
  subst hsp
  rw [Addr.add_lit] at h0
  unfold World.cell? at h0
  split at h0
  · rename_i arr e fr hb
    have hb' : w.heap[b]? = some (.cells arr e fr) := by simpa using hb
    refine ⟨b, off, c, arr, e, fr, rfl, hc, (Array.getElem?_eq_some_iff.mp hb').1, hb', ?_⟩
    apply List.ext_getElem?
    intro i
    simp only [List.getElem?_take, List.getElem?_drop, List.getElem?_map]
    split
    · rename_i hi
      have hci := h i hi
      rw [Addr.add_lit, cell_of_row w b (off + i) arr e fr hb'] at hci
      rw [Array.getElem?_toList, hci, List.getElem?_eq_getElem hi]
      rfl
    · rename_i hi
      rw [List.getElem?_eq_none (by omega)]; rfl
  · cases h0
end
end Go.Sy
