/- 'garnerlaw20.ServerFences': what is run by the evaluator. Conditions: none. -/
import Derived.Test.YtpjakhjaicegjaaGreatDoorKnownE
import Derived.Test.YtpjakhjaicegjaaGreatDoorSumE
import Derived.Test.YtpjakhjaicegjaaGreatDoorSy16
namespace Go.Proofs.YtpjakhjaicegjaaGreatDoor.serverFences
open Go.RowKit Go.Sy
def iv (t : Tm) (a b : Int) : Tm × Iv := (t, ⟨some a, some b⟩)
def dlen : Tm := .len (.var 2)
noncomputable def ovF (R : Facts) : CallF := orElse (sum.line R 0) (ov R)
noncomputable def run (R : Facts) (xs : List AV) (s : AS) : Bool := tells (evCall Tryz.prog R 5000 (ovF R) (fun _ _ _ _ => none) 40 5 xs s)
def early : Facts := ⟨[(.var 0, ⟨none, some 0⟩), iv (.var 1) 0 140737488351232], []⟩
def over_ : Facts := ⟨[(.var 0, ⟨some 2147483648, none⟩), iv (.var 1) 0 140737488351232], []⟩
def long : Facts := ⟨[iv (.var 0) 1 2147483647, iv (.var 1) 2001 140737488351232], []⟩
def at_ (a b : Int) : Facts := ⟨[iv (.var 0) a b, iv (.var 1) 0 2000], []⟩
def any (b : AV) : List AV := [.int .i64 (.var 0), b, .argl (.var 1)]
def one (x : AV) : List AV := [.int .i64 (.lit 1), .bool false, x]
def row : Facts := ⟨[iv dlen 1 2000], []⟩
noncomputable def s0 : AS := ⟨Tr.set (.rdata (.var 2)) 24 .nil 0, 1⟩
end Go.Proofs.YtpjakhjaicegjaaGreatDoor.serverFences
