/- A tile's pixel, a grid's pixel: the walks. Plain, Size, At of a grid; Of of a picture that is not right: the walks. A grid's picture: the walk. -/
import Derived.Test.YtlpcmeodbigpjaaDoorGridOf
namespace Go.Proofs.YtlpcmeodbigpjaaDoor
open Go Go.RowKit



theorem tmCells_at (ts : List TM) (k : Nat) (hk : k < ts.length) : (tmCells ts)[k]? = some (tmPtr ts[k]) := by simp [tmCells, hk]

end Go.Proofs.YtlpcmeodbigpjaaDoor
namespace Go.Proofs.YtlpcmeodbigpjaaDoor
open Go Go.RowKit





end Go.Proofs.YtlpcmeodbigpjaaDoor
namespace Go.Proofs.YtlpcmeodbigpjaaDoor
open Go Go.RowKit

end Go.Proofs.YtlpcmeodbigpjaaDoor
