/- MListed, MSnap, MItem, MPack, MHead. -/
import Derived.Test.YtpdkgpbfmpekgaaGreatDoorGE



/- Marks on Listed. -/
namespace Go.Proofs.YtpdkgpbfmpekgaaGreatDoor
open Go.RowKit

def nLs (x : Ls) : Nat := 1 + x.ns.length
def mLs (k : Int) (x : Ls) : Ls := ⟨mt k, marks (k + 1) x.ns.length⟩
end Go.Proofs.YtpdkgpbfmpekgaaGreatDoor




/- Marks on Snap. -/
namespace Go.Proofs.YtpdkgpbfmpekgaaGreatDoor
open Go.RowKit

def nSn (x : Sn) : Nat := 1 + cntS nLs x.all
def mSn (k : Int) (x : Sn) : Sn := ⟨k, markL mLs nLs (k + 1) x.all⟩
end Go.Proofs.YtpdkgpbfmpekgaaGreatDoor




/- Marks on Item. -/
namespace Go.Proofs.YtpdkgpbfmpekgaaGreatDoor
open Go.RowKit

end Go.Proofs.YtpdkgpbfmpekgaaGreatDoor




/- Marks on Pack. -/
namespace Go.Proofs.YtpdkgpbfmpekgaaGreatDoor
open Go.RowKit

end Go.Proofs.YtpdkgpbfmpekgaaGreatDoor




/- Marks on Head. -/
namespace Go.Proofs.YtpdkgpbfmpekgaaGreatDoor
open Go.RowKit

end Go.Proofs.YtpdkgpbfmpekgaaGreatDoor

