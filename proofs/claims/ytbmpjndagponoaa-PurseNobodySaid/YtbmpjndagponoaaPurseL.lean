/-
  layer 10: words that all its laws' walks use.
-/
import Derived.Test.YtbmpjndagponoaaPurseK
import Derived.Test.YtbmpjndagponoaaPurseT
