/- Lifted by program off the elaborated code: each Go function, read as a proposition over typed variables and the heap. -/
import Derived.Test.YtglhkodebehdbaaG1
import Derived.Test.YtglhkodebehdbaaG2
import Derived.Test.YtglhkodebehdbaaG3
import Derived.Test.YtglhkodebehdbaaG4
