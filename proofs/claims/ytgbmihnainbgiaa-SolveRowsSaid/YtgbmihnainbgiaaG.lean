/- Lifted by program off the elaborated code: each Go function, read as a proposition over typed variables and the heap. -/
import Derived.Test.YtgbmihnainbgiaaG1
import Derived.Test.YtgbmihnainbgiaaG2
