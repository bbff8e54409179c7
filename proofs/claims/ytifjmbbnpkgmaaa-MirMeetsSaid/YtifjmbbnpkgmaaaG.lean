/- Lifted by program off the elaborated code: each Go function, read as a proposition over typed variables and the heap. -/
import Derived.Test.YtifjmbbnpkgmaaaG1
import Derived.Test.YtifjmbbnpkgmaaaG2
import Derived.Test.YtifjmbbnpkgmaaaG3
import Derived.Test.YtifjmbbnpkgmaaaG4
