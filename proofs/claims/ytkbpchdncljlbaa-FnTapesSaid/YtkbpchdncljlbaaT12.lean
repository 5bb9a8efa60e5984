/- Plain words: the copier and the machines of palindromes do what they should, on words of nine letters that begin with 1.
Plain words: the copier and the machines of palindromes do what they should, on words of nine letters that begin with 2. -/
import Derived.Test.YtkbpchdncljlbaaT10
section
set_option maxRecDepth 100000
namespace Go.Proofs.Ytkbpchdncljlbaa
open Go Go.RowKit Go.Proofs
theorem words9a1 : ((wordsL 7).map fun w => 1 :: 1 :: w).all chkW = true := by decide +kernel
theorem words9b1 : ((wordsL 7).map fun w => 1 :: 2 :: w).all chkW = true := by decide +kernel
end Go.Proofs.Ytkbpchdncljlbaa
end
section
set_option maxRecDepth 100000
namespace Go.Proofs.Ytkbpchdncljlbaa
open Go Go.RowKit Go.Proofs
theorem words9a2 : ((wordsL 7).map fun w => 2 :: 1 :: w).all chkW = true := by decide +kernel
theorem words9b2 : ((wordsL 7).map fun w => 2 :: 2 :: w).all chkW = true := by decide +kernel
end Go.Proofs.Ytkbpchdncljlbaa
end
