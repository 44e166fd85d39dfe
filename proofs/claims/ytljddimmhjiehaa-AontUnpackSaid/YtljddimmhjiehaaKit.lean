/- What the walks import, under one name. -/
import Derived.Test.YtljddimmhjiehaaRows
import Derived.Test.YtljddimmhjiehaaMem
import Derived.Test.YtljddimmhjiehaaRot
import Derived.Test.YtljddimmhjiehaaOwn
import Derived.BigRegion
import Derived.Deep.RegionHeld3
import Derived.Deep.LoopGhost
import Derived.Deep.DeepCutAuto
import Derived.Deep.CutBlock
import Derived.KernelRfl
