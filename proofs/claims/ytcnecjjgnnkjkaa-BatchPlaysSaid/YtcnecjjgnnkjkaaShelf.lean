/-
  No contract of the shelf is met by this dump: an empty text, so that the texts that import one find it.
-/
import Derived.Test.YtcnecjjgnnkjkaaProg
namespace Go.Proofs.Ytcnecjjgnnkjkaa
end Go.Proofs.Ytcnecjjgnnkjkaa
