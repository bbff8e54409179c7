/- Lifted by program off the elaborated code: each Go function, read as a proposition over typed variables and the heap. -/
import Derived.Test.YtohlfkomjmjheaaG1
import Derived.Test.YtohlfkomjmjheaaG2
import Derived.Test.YtohlfkomjmjheaaG3
import Derived.Test.YtohlfkomjmjheaaG4
