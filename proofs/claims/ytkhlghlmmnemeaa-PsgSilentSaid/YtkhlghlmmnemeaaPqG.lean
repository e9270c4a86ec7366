import Derived.Test.YtkhlghlmmnemeaaPqF
set_option linter.unusedVariables false
set_option linter.unusedSimpArgs false
namespace Go.Proofs.Ytkhlghlmmnemeaa
open Go Go.R
def vblk (g : Nat → Int) (i : Nat) : Blk := .cells 74 [.int .i64 (tkF g i), .ptr 0 (4 + i * 40), .bool (nzF g i)]
end Go.Proofs.Ytkhlghlmmnemeaa
