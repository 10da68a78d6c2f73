import Derived.Test.Qxb6500428aF0
import Derived.Test.Qxb6500428aF1
import Derived.Test.Qxb6500428aF2
import Derived.Test.Qxb6500428aF3
import Derived.Test.Qxb6500428aF4
import Derived.Test.Qxb6500428aVcD
