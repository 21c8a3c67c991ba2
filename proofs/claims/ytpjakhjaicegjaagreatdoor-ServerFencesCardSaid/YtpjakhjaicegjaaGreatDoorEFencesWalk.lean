/- 'garnerlaw20.ServerFences': whatever the input, true. Conditions: bounds of the integers and lengths; the bytes stand in memory. -/
import Derived.Test.YtpjakhjaicegjaaGreatDoorEFencesA
import Derived.Test.YtpjakhjaicegjaaGreatDoorEFencesB
import Derived.Test.YtpjakhjaicegjaaGreatDoorEFencesC
import Derived.Test.YtpjakhjaicegjaaGreatDoorEFencesD
namespace Go.Proofs.YtpjakhjaicegjaaGreatDoor.serverFences
open Go.RowKit Go.Sy
theorem ovF_ok {F : Fix sum.SS} {R : Facts} (hR : FOK F R) (A : Nat → Prop) (w0 : World) : CallOK F A w0 Tryz.prog (ovF R) :=
  orElse_ok (sum.line_ok (fun _ => rfl) hR A w0) (ov_ok hR A w0)

theorem walk (e : Int) (fr : Bool) (v : Value) (l : List UInt8) (w : World) (hv : BytesAt w v l) (hl : l.length ≤ 140737488351232) :
    Calls Tryz.prog 5 #[.int .i64 e, .bool fr, v] w fun r w' => r = .returned (.bool true) ∧ Below w.heap.size w w' := by
  obtain ⟨F, hF⟩ : ∃ F : Fix sum.SS, F = Fix.of sum.SS [.int e, .int l.length, .bytes l, .bool fr] := ⟨_, rfl⟩
  have f0 : F 0 = .int e := by rw [hF]; rfl
  have f1 : F 1 = .int l.length := by rw [hF]; rfl
  have f2 : F 2 = .bytes l := by rw [hF]; rfl
  have f3 : F 3 = .bool fr := by rw [hF]; rfl
  clear hF
  obtain ⟨p, c, hpc⟩ : ∃ p c, v = .slice p l.length c := by
    rcases hv with ⟨rfl, rfl⟩ | ⟨a, c, rfl, _⟩
    · exact ⟨_, _, rfl⟩
    · exact ⟨_, _, rfl⟩
  have key : ∀ R b, run R (any b) ⟨.nil, 0⟩ = true → FOK F R → VR F (fun _ => none) b (.bool fr) → Calls Tryz.prog 5 #[.int .i64 e, .bool fr, v] w fun r w' => r = .returned (.bool true) ∧ Below w.heap.size w w' := fun R b hr hR hb =>
    said (F := F) hR w (ovF_ok hR _ _) (noLoops _ _ _ _) hr [.int .i64 e, .bool fr, v] (by
      simp only [any, VRs]
      refine ⟨_, _, by simp only [VR, Tm.val, f0, Dat.i_int], ⟨_, _, hb, ⟨_, _, ?_, rfl, rfl⟩, rfl⟩, rfl⟩
      simp only [VR, Tm.val, f1, Dat.i_int]
      exact ⟨p, l.length, c, rfl, hpc⟩)
  have ht : VR F (fun _ => none) (.tb (.var 3)) (.bool fr) := by simp only [VR, Tm.val, f3, Dat.b_bool]
  have hb : ∀ b, fr = b → VR F (fun _ => none) (.bool b) (.bool fr) := by rintro b rfl; simp only [VR]
  have r1 : ((Tm.var 1).val F).i = (l.length : Int) := by simp only [Tm.val, f1, Dat.i_int]
  have r0 : ((Tm.var 0).val F).i = e := by simp only [Tm.val, f0, Dat.i_int]
  by_cases h1 : e < 1
  · exact key _ _ a1 (factsOK ⟨by rw [r0]; exact Iv.has_ns.2 (by omega), by rw [r1]; exact Iv.has_ss.2 (by omega), trivial⟩ trivial) ht
  by_cases h2 : 2147483647 < e
  · exact key _ _ a2 (factsOK ⟨by rw [r0]; exact Iv.has_sn.2 (by omega), by rw [r1]; exact Iv.has_ss.2 (by omega), trivial⟩ trivial) ht
  by_cases h3 : 2000 < l.length
  · exact key _ _ a3 (factsOK ⟨by rw [r0]; exact Iv.has_ss.2 (by omega), by rw [r1]; exact Iv.has_ss.2 (by omega), trivial⟩ trivial) ht
  have at__ : ∀ a b : Int, a ≤ e → e ≤ b → FOK F (at_ a b) := fun a b ha hb => factsOK ⟨by rw [r0]; exact Iv.has_ss.2 (by omega), by rw [r1]; exact Iv.has_ss.2 (by omega), trivial⟩ trivial
  rcases (show fr = true ∨ fr = false by cases fr <;> simp) with hfr | hfr
  · by_cases h4 : e = 1
    · exact key _ _ b1 (at__ _ _ (by omega) (by omega)) (hb _ hfr)
    by_cases h5 : e = 2
    · exact key _ _ b2 (at__ _ _ (by omega) (by omega)) (hb _ hfr)
    · exact key _ _ b3 (at__ _ _ (by omega) (by omega)) (hb _ hfr)
  · by_cases h4 : e = 1
    · subst h4
      rw [hfr]
      by_cases hn : l = []
      · subst hn
        rcases hv with ⟨rfl, _⟩ | ⟨a, c, rfl, _⟩
        · exact said (F := F) (facts_none F) w (ovF_ok (facts_none F) _ _) (noLoops _ _ _ _) c2 [.int .i64 1, .bool false, .slice none 0 0] (by simp [one, VRs, VR, Tm.val])
        · exact said (F := F) (facts_none F) w (ovF_ok (facts_none F) _ _) (noLoops _ _ _ _) c3 [.int .i64 1, .bool false, .slice (some a) 0 c] (by simp [one, VRs, VR, Tm.val])
      · obtain ⟨b, off, c, arr, t, fz, rfl, hc, hb, hblk, hrow⟩ := hv.row hn
        have hpos := List.length_pos_iff.2 hn
        obtain ⟨_, hσ, hrep⟩ := rep_arg (F := F) (s' := s0) (t := .var 2) (off := off) (id := 0) (rep_start F (fun _ => False) w 0) rfl hb (fun e => e) hblk (by simp only [Tm.val, f2, Dat.d_bytes]; exact hrow)
        have hR : FOK F row := factsOK ⟨by simp only [dlen, Tm.val, f2, Dat.i_int, Dat.d_bytes]; exact Iv.has_ss.2 (by omega), trivial⟩ trivial
        refine said_from (F := F) hR w (ovF_ok hR _ _) (noLoops _ _ _ _) hrep c1 [.int .i64 1, .bool false, .slice (some ⟨b, off, none⟩) l.length c] ?_
        simp only [one, VRs, VR]
        exact ⟨_, _, rfl, ⟨_, _, rfl, ⟨_, _, ⟨b, off, hσ, 0, l.length, c, by simp [Tm.val], by simp [dlen, Tm.val, f2], .inl ⟨by simp, hc⟩⟩, rfl, rfl⟩, rfl⟩, rfl⟩
    · exact key _ _ b4 (at__ _ _ (by omega) (by omega)) (hb _ hfr)
end Go.Proofs.YtpjakhjaicegjaaGreatDoor.serverFences
