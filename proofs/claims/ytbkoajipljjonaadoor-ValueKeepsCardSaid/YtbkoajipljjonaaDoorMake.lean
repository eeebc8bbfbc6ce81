/- value.Map, value.Print, value.List, value.Text, value.Number. -/
import Derived.Test.YtbkoajipljjonaaDoorMap
import Derived.Test.YtbkoajipljjonaaDoorPrint
import Derived.Test.YtbkoajipljjonaaDoorCtor
