/- Lifted by program off the elaborated code: each Go function, read as a proposition over typed variables and the heap. -/
import Derived.Test.YteaidgpiolakcaaG1
import Derived.Test.YteaidgpiolakcaaG2
import Derived.Test.YteaidgpiolakcaaG3
