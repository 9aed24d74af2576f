/- Base of the chains of sets that are inserted and removed. No statement of the seat is proved here. -/
import Derived.Test.YtmgiijdejigdhaaSh
import Derived.Test.YtmgiijdejigdhaaDg
import Derived.Test.YtmgiijdejigdhaaDf
import Derived.Test.YtmgiijdejigdhaaDpt
import Derived.Test.YtmgiijdejigdhaaIp
