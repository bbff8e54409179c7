/- Lifted by program off the elaborated code: each Go function, read as a proposition over typed variables and the heap. -/
import Derived.Test.YtgbmihnainbgiaaDoorG1
import Derived.Test.YtgbmihnainbgiaaDoorG2
