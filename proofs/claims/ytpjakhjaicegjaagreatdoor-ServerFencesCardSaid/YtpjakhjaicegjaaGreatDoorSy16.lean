/- Rows of bytes that came in: what a reading of an argument says of its cells, in the evaluator's words. Conditions: none. -/
import Derived.Test.YtpjakhjaicegjaaGreatDoorSy15
import Derived.OpenShut
import Derived.ChangeOld
import Derived.ChangeSlices
import Derived.ProofKit
import Derived.SizedLaws
import Derived.Below
namespace Go.Sy
open Go.RowKit Go.ChangeShapes Go.WideShapes Go.ChangeAt

/-- A slice of bytes that came in: nil; empty; or its bytes stand in a block. -/
def ArgRow (w : World) (v : Value) : Prop :=
  v = .slice none 0 0 ∨ (∃ a c, v = .slice (some a) 0 c) ∨
  ∃ (b off c : Nat) (arr : Array Value) (e : TypeId) (fr : Nat × Nat) (l : List UInt8), v = .slice (some ⟨b, off, none⟩) l.length c ∧ l.length ≤ maxLen ∧ b < w.heap.size ∧
    w.heap[b]? = some (.cells arr e fr) ∧ (arr.toList.drop off).take l.length = l.map byteV

theorem byteV_of {z : Int} (h : (Lit.int .u8 z).wf = true) : byteV (UInt8.ofNat z.toNat) = .int .u8 z := by
  simp [Lit.wf, IntKind.min, IntKind.max, IntKind.bits, IntKind.signed] at h
  unfold byteV
  have : z.toNat < 256 := by omega
  have h2 : (UInt8.ofNat z.toNat).toNat = z.toNat := by simp [UInt8.toNat_ofNat', Nat.mod_eq_of_lt this]
  rw [h2]
  congr 1
  omega

section
variable {H : Type} {enc : TypeId × Value → H} {P : Program} {w : World} {base : Nat} {spare : Nat → Bool} {held : Bool}
theorem argRow_of {t e : TypeId} {fuel : Nat} {v : Value} {x : DataW H × List MemPlace} (ht : P.underlying t = some (.slice e)) (he : P.underlying e = some (.int .u8)) (hc : P.cellsOf e = 1)
    (h : DataW.trod enc P w base spare held fuel t [v] = some x) : ArgRow w v := by
  rcases open_ints ht he hc h with ⟨hcs, _⟩ | ⟨a, len, cap, zs, hcs, _, hl, hm, hz, _, hcell, hwz⟩
  · simp at hcs; exact .inl hcs
  · simp at hcs
    subst hcs
    right
    have hzl : len ≤ zs.length := by rw [hz]; split <;> omega
    rcases Nat.eq_zero_or_pos len with rfl | hpos
    · exact .inl ⟨a, cap, rfl⟩
    right
    have h0 := hcell 0 (by omega)
    simp only [Addr.add, if_true] at h0
    unfold World.cell? at h0
    split at h0
    · rename_i arr e' fr hb
      split at h0
      · cases h0
      · rename_i hs
        obtain ⟨b, off, sp⟩ := a
        have hsp : sp = none := by cases sp <;> simp_all
        subst hsp
        have hll : ((zs.take len).map fun z => UInt8.ofNat z.toNat).length = len := by simp; omega
        refine ⟨b, off, cap, arr, e', fr, (zs.take len).map fun z => UInt8.ofNat z.toNat, by rw [hll], by rw [hll]; omega, (Array.getElem?_eq_some_iff.mp hb).1, hb, ?_⟩
        rw [hll]
        apply List.ext_getElem?
        intro i
        simp only [List.getElem?_take, List.getElem?_drop, List.getElem?_map]
        split
        · rename_i hi
          have hci := hcell i (by omega)
          have hadd : (⟨b, off, none⟩ : Addr).add i = ⟨b, off + i, none⟩ := by unfold Addr.add; split <;> simp_all
          rw [hadd] at hci
          unfold World.cell? at hci
          simp only [hb] at hci
          simp only [Option.isSome_none, Bool.false_eq_true, if_false] at hci
          rw [Array.getElem?_toList, hci]
          have hzi : zs[i]? = some (zs.getD i 0) := by
            rw [List.getElem?_eq_getElem (by omega)]; simp [List.getD, List.getElem?_eq_getElem (show i < zs.length by omega)]
          rw [hzi]
          simp only [Option.map_some]
          rw [byteV_of (hwz _ (List.mem_of_getElem? hzi))]
        · rfl
    · cases h0

/-- A slice that came in, of which the length alone matters. -/
def ArgLen (v : Value) (n : Nat) : Prop := ∃ a c, v = .slice a n c ∧ n ≤ maxLen
theorem ArgRow.len {w : World} {v : Value} (h : ArgRow w v) : ∃ n, ArgLen v n := by
  rcases h with rfl | ⟨a, c, rfl⟩ | ⟨b, off, c, arr, e, fr, l, rfl, hl, _⟩
  · exact ⟨0, _, _, rfl, by unfold maxLen; omega⟩
  · exact ⟨0, _, _, rfl, by unfold maxLen; omega⟩
  · exact ⟨_, _, _, rfl, hl⟩
theorem argLen_of {t e : TypeId} {fuel : Nat} {v : Value} {x : DataW H × List MemPlace} (ht : P.underlying t = some (.slice e))
    (h : DataW.trod enc P w base spare held fuel t [v] = some x) : ∃ n, ArgLen v n := by
  rcases DataW.trod_slice ht h with ⟨hcs, _⟩ | ⟨a, len, cap, elems, rest, n, _, hcs, _, _, hl, hm, _⟩
  · simp at hcs; exact ⟨0, _, _, hcs, by unfold maxLen; omega⟩
  · simp at hcs; exact ⟨len, _, _, hcs, by omega⟩
/-- .. and what the form says of its size. -/
theorem argLen_small {t e : TypeId} {fuel : Nat} {v : Value} {x : DataW H × List MemPlace} (ht : P.underlying t = some (.slice e)) (hb : 0 < P.bytesOf e)
    (h : DataW.trod enc P w base spare held fuel t [v] = some x) (hw : ∀ n ∈ x.1.weights P t, n ≤ reachBytes) : ∃ n, ArgLen v n ∧ n ≤ 140737488351232 := by
  rcases DataW.trod_slice ht h with ⟨hcs, _⟩ | ⟨a, len, cap, elems, rest, n, _, hcs, rfl, _, hl, hm, hlen, _⟩
  · simp at hcs; exact ⟨0, ⟨_, _, hcs, by unfold maxLen; omega⟩, by omega⟩
  · simp at hcs
    refine ⟨len, ⟨_, _, hcs, by omega⟩, ?_⟩
    have h1 := hw ((elems.length + rest.length) * P.bytesOf e) (by simp [DataW.weights, ht])
    have h2 : len ≤ (elems.length + rest.length) * P.bytesOf e := by
      rw [← hlen]
      exact Nat.le_trans (Nat.le_add_right _ _) (Nat.le_mul_of_pos_right _ hb)
    have h3 : reachBytes = 140737488351232 := by decide
    omega
theorem weights_part {t u : TypeId} {fs : Array Field} {ps : List (DataW H)} (ht : P.underlying t = some (.struct fs)) (hw : ∀ n ∈ (DataW.agg ps).weights P t, n ≤ reachBytes) {j : Nat} {d : DataW H}
    (hj : (fs.toList.map (·.type))[j]? = some u) (hd : ps[j]? = some d) : ∀ n ∈ d.weights P u, n ≤ reachBytes := fun n hn =>
  hw n (by simp only [DataW.weights, ht]; exact DataW.weights_mem_each hj hd n hn)
theorem weights_arg {ts : List TypeId} {ds : List (DataW H)} (h : (DataW.weightsEach P ts ds).all (· ≤ reachBytes) = true) {j : Nat} {t : TypeId} {d : DataW H} (ht : ts[j]? = some t) (hd : ds[j]? = some d) :
    ∀ n ∈ d.weights P t, n ≤ reachBytes := fun n hn => by
  have := List.all_eq_true.1 h n (DataW.weights_mem_each ht hd n hn)
  simpa using this
theorem list5 {α : Type} : ∀ {l : List α}, l.length = 5 → ∃ a b c d e, l = [a, b, c, d, e]
  | [], h | [_], h | [_, _], h | [_, _, _], h | [_, _, _, _], h => by simp at h
  | a :: b :: c :: d :: e :: l, h => by
    have : l = [] := List.eq_nil_of_length_eq_zero (by simpa using h)
    subst this
    exact ⟨a, b, c, d, e, rfl⟩
theorem array5 {α : Type} {cs : Array α} (h : cs.size = 5) : ∃ a b c d e, cs = #[a, b, c, d, e] := by
  obtain ⟨l⟩ := cs
  obtain ⟨a, b, c, d, e, rfl⟩ := list5 (l := l) (by simpa using h)
  exact ⟨a, b, c, d, e, rfl⟩
end
end Go.Sy
