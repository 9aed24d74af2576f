/- Base of chains with arrays, rows at places, a sort of integers. No statement of the seat is proved here. -/
import Derived.Test.YtmkgocdgkdglnaaSh
import Derived.Test.YtmkgocdgkdglnaaDa
import Derived.Test.YtmkgocdgkdglnaaSoi
