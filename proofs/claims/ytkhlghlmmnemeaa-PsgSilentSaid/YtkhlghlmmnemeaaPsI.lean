import Derived.Test.YtkhlghlmmnemeaaPsH
import Derived.Test.YtkhlghlmmnemeaaN
set_option linter.unusedVariables false
set_option linter.unusedSimpArgs false
namespace Go.Proofs.Ytkhlghlmmnemeaa
open Go Go.R
def rblk (f : Nat → Int) (off : Nat) : Blk := .ints 34 .i64 40 (fun j => upd (fun j => 0) 0 40 (fun j => f (off + j)) j)
end Go.Proofs.Ytkhlghlmmnemeaa
