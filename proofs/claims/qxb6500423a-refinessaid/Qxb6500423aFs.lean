import Derived.Test.Qxb6500423aF0
import Derived.Test.Qxb6500423aF1
import Derived.Test.Qxb6500423aF2
import Derived.Test.Qxb6500423aF3
import Derived.Test.Qxb6500423aVcD
