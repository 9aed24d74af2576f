/- Base of chains over tables. No statement of the seat is proved here. -/
import Derived.Test.YtcodfkieaoomnaaDoorTp
import Derived.Test.YtcodfkieaoomnaaDoorGf
import Derived.Test.YtcodfkieaoomnaaDoorGs
