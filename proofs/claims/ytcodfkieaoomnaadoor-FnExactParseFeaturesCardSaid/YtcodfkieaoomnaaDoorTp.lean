/- Base of chains: short forms, rows at places. No statement of the seat is proved here. -/
import Derived.Test.YtcodfkieaoomnaaDoorSh
import Derived.Test.YtcodfkieaoomnaaDoorDp
