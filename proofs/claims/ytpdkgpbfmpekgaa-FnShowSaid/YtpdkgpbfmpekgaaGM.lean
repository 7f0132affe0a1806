/- MListed, MSnap, MItem, MPack, MHead. -/
import Derived.Test.YtpdkgpbfmpekgaaGE



/- Marks on Listed. -/
namespace Go.Proofs.Ytpdkgpbfmpekgaa
open Go.RowKit

def nLs (x : Ls) : Nat := 1 + x.ns.length
def mLs (k : Int) (x : Ls) : Ls := ⟨mt k, marks (k + 1) x.ns.length⟩
end Go.Proofs.Ytpdkgpbfmpekgaa




/- Marks on Snap. -/
namespace Go.Proofs.Ytpdkgpbfmpekgaa
open Go.RowKit

def nSn (x : Sn) : Nat := 1 + cntS nLs x.all
def mSn (k : Int) (x : Sn) : Sn := ⟨k, markL mLs nLs (k + 1) x.all⟩
end Go.Proofs.Ytpdkgpbfmpekgaa




/- Marks on Item. -/
namespace Go.Proofs.Ytpdkgpbfmpekgaa
open Go.RowKit

end Go.Proofs.Ytpdkgpbfmpekgaa




/- Marks on Pack. -/
namespace Go.Proofs.Ytpdkgpbfmpekgaa
open Go.RowKit

end Go.Proofs.Ytpdkgpbfmpekgaa




/- Marks on Head. -/
namespace Go.Proofs.Ytpdkgpbfmpekgaa
open Go.RowKit

end Go.Proofs.Ytpdkgpbfmpekgaa

