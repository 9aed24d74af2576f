/- The last of the printed texts. No statement of the seat is proved here. -/
import Derived.Test.YtmgiijdejigdhaaE6
