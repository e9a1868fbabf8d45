/- This seat's base: the path texts' own serves the ring's, too. -/
import Derived.Test.YthcmcjoenepkbaaGreatDoorBase
