/-
  purse: a ledger as the world goes on.
-/
import Derived.Test.YtajefffhdeljfaaPurseA
import Derived.Test.YtajefffhdeljfaaPurseN
namespace Go.Proofs.Ytajefffhdeljfaa
open Go.RowKit Go.Maps

theorem PurAt.chg {w w' : World} {b mb : Nat} {lv : Value} {p : Pur} {S : Nat → Prop} (h : PurAt w b mb lv p) (hc : Chg S w w') (h1 : ¬ S b) (h2 : ¬ S mb) (h3 : ∀ k, lv.ownBlock = some k → ¬ S k) : PurAt w' b mb lv p :=
  ⟨h.blk.chg hc h1, h.map.chg hc h2, own_chg h.own hc h3, h.keys⟩

end Go.Proofs.Ytajefffhdeljfaa
