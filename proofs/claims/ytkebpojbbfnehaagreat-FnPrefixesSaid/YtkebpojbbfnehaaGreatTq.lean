/- Types, short forms, regions cut into parts. No statement of the seat is proved here. -/
import Derived.Test.YtkebpojbbfnehaaGreatSh
import Derived.Test.YtkebpojbbfnehaaGreatDq
