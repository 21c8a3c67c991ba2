/- 'garnerlaw20.ServerOfNothing': the run by the evaluator. Conditions: bounds of the integers and lengths. -/
import Derived.Test.YtpjakhjaicegjaaGreatDoorKnownE
import Derived.Test.YtpjakhjaicegjaaGreatDoorSy16
namespace Go.Proofs.YtpjakhjaicegjaaGreatDoor.serverOfNothing
open Go.RowKit Go.Sy

def i64 (t : Tm) : Tm × Iv := (t, ⟨some (-9223372036854775808), some 9223372036854775807⟩)
def len (t : Tm) : Tm × Iv := (t, ⟨some 0, some 140737488351232⟩)
def base : List (Tm × Iv) := [len (.var 0), len (.var 1), i64 (.var 2), i64 (.var 3), i64 (.var 4), i64 (.var 5)]
def few : Facts := ⟨(ladd (.var 0) (.var 1), ⟨none, some 30000⟩) :: base, []⟩
def many : Facts := ⟨(ladd (.var 0) (.var 1), ⟨some 30001, none⟩) :: base, []⟩
noncomputable def run (R : Facts) : Bool := tells (evCall Tryz.prog R 5000 (ov R) (fun _ _ _ _ => none) 40 4 [.agg [.int .i64 (.var 2), .int .i64 (.var 3), .int .i64 (.var 4), .argl (.var 0), .argl (.var 1)], .int .i64 (.var 5)] ⟨.nil, 0⟩)
theorem r1 : run few = true := by kernel_rfl
theorem r2 : run many = true := by kernel_rfl

theorem walk (n m : Nat) (a b c d : Int) (v v' : Value) (hv : ArgLen v n) (hv' : ArgLen v' m) (hn : n ≤ 140737488351232) (hm : m ≤ 140737488351232) 
    (ha : -9223372036854775808 ≤ a ∧ a ≤ 9223372036854775807) (hb : -9223372036854775808 ≤ b ∧ b ≤ 9223372036854775807) (hc : -9223372036854775808 ≤ c ∧ c ≤ 9223372036854775807) (hd : -9223372036854775808 ≤ d ∧ d ≤ 9223372036854775807) (w : World) :
    Calls Tryz.prog 4 #[.agg #[.int .i64 a, .int .i64 b, .int .i64 c, v, v'], .int .i64 d] w fun r w' => r = .returned (.bool true) ∧ Below w.heap.size w w' := by
  obtain ⟨p, q, rfl, _⟩ := hv
  obtain ⟨p', q', rfl, _⟩ := hv'
  obtain ⟨F, hF⟩ : ∃ F : Fix Sg.bare, F = Fix.of Sg.bare [.int n, .int m, .int a, .int b, .int c, .int d] := ⟨_, rfl⟩
  have f0 : F 0 = .int n := by rw [hF]; rfl
  have f1 : F 1 = .int m := by rw [hF]; rfl
  have f2 : F 2 = .int a := by rw [hF]; rfl
  have f3 : F 3 = .int b := by rw [hF]; rfl
  have f4 : F 4 = .int c := by rw [hF]; rfl
  have f5 : F 5 = .int d := by rw [hF]; rfl
  clear hF
  have hbase : RngIs F base := by
    simp only [base, RngIs, len, i64, Tm.val, Iv.has_ss, f0, f1, f2, f3, f4, f5, Dat.i]
    refine ⟨?_, ?_, ha, hb, hc, hd, trivial⟩ <;> omega
  have key : ∀ R, run R = true → FOK F R → Calls Tryz.prog 4 #[.agg #[.int .i64 a, .int .i64 b, .int .i64 c, .slice p n q, .slice p' m q'], .int .i64 d] w fun r w' => r = .returned (.bool true) ∧ Below w.heap.size w w' := fun R hr hR =>
    said (F := F) hR w (ov_ok hR _ _) (noLoops _ _ _ _) hr [.agg #[.int .i64 a, .int .i64 b, .int .i64 c, .slice p n q, .slice p' m q'], .int .i64 d]
      (by simp only [VRs, VR, Tm.val, f0, f1, f2, f3, f4, f5, Dat.i]
          exact ⟨_, _, ⟨_, ⟨_, _, rfl, ⟨_, _, rfl, ⟨_, _, rfl, ⟨_, _, ⟨p, n, q, rfl, rfl⟩, ⟨_, _, ⟨p', m, q', rfl, rfl⟩, rfl, rfl⟩, rfl⟩, rfl⟩, rfl⟩, rfl⟩, rfl⟩, ⟨_, _, rfl, rfl, rfl⟩, rfl⟩)
  by_cases h : (n : Int) + m ≤ 30000
  · exact key _ r1 (factsOK (R := few) ⟨by rw [ladd_val]; simp only [Tm.val, f0, f1, Dat.i, Iv.has_ns]; exact h, hbase⟩ trivial)
  · exact key _ r2 (factsOK (R := many) ⟨by rw [ladd_val]; simp only [Tm.val, f0, f1, Dat.i, Iv.has_sn]; omega, hbase⟩ trivial)

end Go.Proofs.YtpjakhjaicegjaaGreatDoor.serverOfNothing
