/- The facts of a program and a row that a claim's end asks for, one by one. Conditions: each of them. -/
import Derived.JoinedOf
namespace Go.Sy
theorem joined_of {P : Program} {f : FuncId} {fn : Func} {s : ChangeSpec} {c : OpenClaim}
    (wf : c.wf (OpenSpec.ofChange s) = true) (laid : laidOutB P = true) (rowed : mapsRowed P = true) (params : fn.params.all (P.readableRec ·) = true) (tie : namedTie P c.named s.vars = true)
    (st1 : (c.stops == []) = true) (st2 : (P.stops == []) = true) (st3 : (c.knobs == []) = true) (st4 : (P.stopKnobs == []) = true)
    (inPlace : (c.inPlace == P.inPlace f) = true) (unf : (c.unfollowed == P.unfollowed f) = true) (rec_ : (c.recurses == P.recurses f) = true) (named : (c.named == P.varsNamed f) = true)
    (maps : (c.maps == (fn.params.toList ++ s.plain.varTypes P).any (P.mapsRec ·)) = true) (ifs : (c.ifaces == (fn.params.toList ++ s.plain.varTypes P).any (P.ifacesRec ·)) = true) (mo : (c.mapsOut == P.mapsAmong fn.resultTypes.toList) = true)
    (lo : (c.loops == (fn.params.toList ++ s.plain.varTypes P).any (P.loopsFrom ·)) = true) (wk : (c.wideKeys == (fn.params.toList ++ s.plain.varTypes P ++ fn.resultTypes.toList).any (P.wideKeysFrom ·)) = true)
    (vr : s.vars.all (P.varReadable ·) = true) (rt : fn.resultTypes.all (fun t => P.readableRec t && decide (t < P.types.size)) = true) (io : (c.ifacesOut == fn.resultTypes.toList.any (P.ifacesRec ·)) = true) (lo2 : (c.loopsOut == fn.resultTypes.toList.any (P.loopsFrom ·)) = true)
    (pk : (c.plainKeys == P.plainKeys) = true) (sh : c.shortTexts.isNone = true) (heard : P.stopsHeard = true) (enter : P.mayEnter = true) (lifts : (c.lifted == P.liftsFinal) = true) (make : (P.make == some c.make) = true)
    (kinds : (c.kinds == (if c.domain.isEmpty then [] else fn.params.toList.map fun t => match P.underlying t with | some (.int k) => some k | _ => none)) = true) (pin : (c.pinned == c.pinnedBy) = true)
    (veil : (c.veiled == (fn.params.toList ++ s.plain.varTypes P ++ fn.resultTypes.toList).any (P.veiledRec ·)) = true) (veil2 : c.veiledFits P fn.params.toList (fn.params.toList ++ s.plain.varTypes P ++ fn.resultTypes.toList) = true) :
    joinedFacts P f fn s c = true := by
  unfold joinedFacts
  rw [wf, laid, rowed, params, tie, st1, st2, st3, st4, inPlace, unf, rec_, named, maps, ifs, mo, lo, wk, vr, rt, io, lo2, pk, sh, heard, enter, lifts, make, pin, veil, veil2]
  simp only [Bool.true_and, Bool.and_true]
  exact kinds
end Go.Sy
