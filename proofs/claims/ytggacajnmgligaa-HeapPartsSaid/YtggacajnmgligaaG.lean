/- Lifted by program off the elaborated code: each Go function, read as a proposition over typed variables and the heap. -/
import Derived.Test.YtggacajnmgligaaG1
import Derived.Test.YtggacajnmgligaaG2
import Derived.Test.YtggacajnmgligaaG3
