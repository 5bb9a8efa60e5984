/- Plain words: the copier and the machines of palindromes do what they should, on words of at most eight letters.
Plain words: the copier and the machines of palindromes do what they should, on words of eight letters. -/
import Derived.Test.YtkbpchdncljlbaaT10
section
set_option maxRecDepth 100000
namespace Go.Proofs.Ytkbpchdncljlbaa
open Go Go.RowKit Go.Proofs
theorem words0 : (wordsL 0).all chkW = true := by decide +kernel
theorem words1 : (wordsL 1).all chkW = true := by decide +kernel
theorem words2 : (wordsL 2).all chkW = true := by decide +kernel
theorem words3 : (wordsL 3).all chkW = true := by decide +kernel
theorem words4 : (wordsL 4).all chkW = true := by decide +kernel
theorem words5 : (wordsL 5).all chkW = true := by decide +kernel
theorem words6 : (wordsL 6).all chkW = true := by decide +kernel
theorem words7 : (wordsL 7).all chkW = true := by decide +kernel
end Go.Proofs.Ytkbpchdncljlbaa
end
section
set_option maxRecDepth 100000
namespace Go.Proofs.Ytkbpchdncljlbaa
open Go Go.RowKit Go.Proofs
theorem words8a : ((wordsL 7).map fun w => 1 :: w).all chkW = true := by decide +kernel
theorem words8b : ((wordsL 7).map fun w => 2 :: w).all chkW = true := by decide +kernel
end Go.Proofs.Ytkbpchdncljlbaa
end
