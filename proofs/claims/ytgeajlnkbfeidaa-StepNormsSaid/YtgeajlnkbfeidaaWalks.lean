/- The walks, all of them. -/
import Derived.Test.YtgeajlnkbfeidaaWalks3
