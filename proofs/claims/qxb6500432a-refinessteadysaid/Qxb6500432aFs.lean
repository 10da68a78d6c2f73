import Derived.Test.Qxb6500432aF0
import Derived.Test.Qxb6500432aF1
import Derived.Test.Qxb6500432aF2
import Derived.Test.Qxb6500432aF3
import Derived.Test.Qxb6500432aF4
import Derived.Test.Qxb6500432aF5
import Derived.Test.Qxb6500432aF6
import Derived.Test.Qxb6500432aVcD
