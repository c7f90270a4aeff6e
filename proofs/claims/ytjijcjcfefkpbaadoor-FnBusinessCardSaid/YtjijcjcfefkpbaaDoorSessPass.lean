/- Contracts on sessions: PassMinutes, the reference's and the program's. No conditions beyond sizes. -/
import Derived.Test.YtjijcjcfefkpbaaDoorSessR
namespace Go.Proofs.YtjijcjcfefkpbaaDoor
open Go.RowKit
set_option linter.unusedVariables false
set_option linter.unusedSimpArgs false

/-- PassMinutes. -/
def passMinutes (s : DSess) (x : Int) : DSess × Bool := if sessOk s.en s.nu s.de s.pr s.re && inB x 0 1439 then ({ s with re := if s.re ≤ x then 0 else s.re }, true) else (zeroSess, false)

theorem passMinutes_len (s : DSess) (x : Int) (h : s.pr.length ≤ 1048576) : (passMinutes s x).1.pr.length ≤ 4000000 := by
  unfold passMinutes; split <;> simp [zeroSess] <;> omega

end Go.Proofs.YtjijcjcfefkpbaaDoor
