/- Rows of bytes that came in, as contracts read them. Conditions: none. -/
import Derived.Test.YtpjakhjaicegjaaGreatDoorSyB
import Derived.Test.YtpjakhjaicegjaaGreatDoorSy16
namespace Go.Sy
open Go.RowKit Go.ChangeShapes Go.WideShapes Go.ChangeAt
section
variable {H : Type} {enc : TypeId × Value → H} {P : Program} {w : World} {base : Nat} {spare : Nat → Bool} {held : Bool}
theorem argBytes_of {t e : TypeId} {fuel : Nat} {v : Value} {x : DataW H × List MemPlace} (ht : P.underlying t = some (.slice e)) (he : P.underlying e = some (.int .u8)) (hc : P.cellsOf e = 1)
    (h : DataW.trod enc P w base spare held fuel t [v] = some x) : ∃ l, BytesAt w v l ∧ ∀ n, ArgLen v n → l.length = n := by
  rcases open_ints ht he hc h with ⟨hcs, _⟩ | ⟨a, len, cap, zs, hcs, _, hl, hm, hz, _, hcell, hwz⟩
  · simp at hcs
    subst hcs
    exact ⟨[], .inl ⟨rfl, rfl⟩, fun n hn => by obtain ⟨a, c, e, _⟩ := hn; cases e; rfl⟩
  · simp at hcs
    subst hcs
    have hzl : len ≤ zs.length := by rw [hz]; split <;> omega
    have hll : ((zs.take len).map fun z => UInt8.ofNat z.toNat).length = len := by simp; omega
    refine ⟨(zs.take len).map fun z => UInt8.ofNat z.toNat, .inr ⟨a, cap, by rw [hll], by rw [hll]; exact hl, fun j hj => ?_⟩, fun n hn => by obtain ⟨a, c, e, _⟩ := hn; cases e; exact hll⟩
    rw [hll] at hj
    rw [hcell j (by omega)]
    have hzi : zs[j]? = some (zs.getD j 0) := by
      rw [List.getElem?_eq_getElem (by omega)]; simp [List.getD, List.getElem?_eq_getElem (show j < zs.length by omega)]
    have hb := byteV_of (hwz _ (List.mem_of_getElem? hzi))
    unfold byteV at hb
    have e1 : ((zs.take len).map fun z => UInt8.ofNat z.toNat)[j]'(by rw [hll]; exact hj) = UInt8.ofNat (zs.getD j 0).toNat := by
      simp only [List.getElem_map, List.getElem_take]
      congr 2
      simp [List.getD, List.getElem?_eq_getElem (show j < zs.length by omega)]
    rw [e1, hb]
end
end Go.Sy
