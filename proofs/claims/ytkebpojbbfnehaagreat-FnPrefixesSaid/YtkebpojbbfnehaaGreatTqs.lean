/- Types, short forms, regions cut into parts, sorts of strings. No statement of the seat is proved here. -/
import Derived.Test.YtkebpojbbfnehaaGreatTq
import Derived.Test.YtkebpojbbfnehaaGreatSos
