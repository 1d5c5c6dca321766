/- The lifted functions. -/
import Derived.Test.YtldcgfpcnemhpaaDoorLtK
