/- The lifted functions. -/
import Derived.Test.YtldcgfpcnemhpaaGreatLtG
