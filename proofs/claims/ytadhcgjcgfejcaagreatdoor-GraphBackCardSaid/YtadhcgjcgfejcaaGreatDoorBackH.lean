/- Part 8 of what the claim rests on. -/
import Derived.Stop.LaidErr
import Derived.Test.YtadhcgjcgfejcaaGreatDoorBackA
import Derived.Test.YtadhcgjcgfejcaaGreatDoorBackB
import Derived.Test.YtadhcgjcgfejcaaGreatDoorBackC
import Derived.Test.YtadhcgjcgfejcaaGreatDoorBackD
import Derived.Test.YtadhcgjcgfejcaaGreatDoorBackE
import Derived.Test.YtadhcgjcgfejcaaGreatDoorBackF
import Derived.Test.YtadhcgjcgfejcaaGreatDoorBackG
section
set_option linter.unusedVariables false
set_option linter.unusedSimpArgs false
namespace Go.Abs.Seat
open Go.Proofs Go.Abs Go.ChangeShapes
section
variable {Hd : Type} {enc : TypeId × Value → Hd} {P : Program} {w : World}
end
end Go.Abs.Seat
namespace Go.Proofs
open Go.ChangeShapes Go.RowKit
theorem err_cell {P : Program} {n nm : String} {d : DataW Unit} {r : List (String × DataW Unit)} {W : World} {g : Nat} {ti : TypeId} {ms : Array (String × TypeId)} (h : laidMet P ((n, .iface nm d) :: r) W)
  (hg : P.globalNamed n = some g) (ht : (P.globals[g]?).map (·.type) = some ti) (hi : P.underlying ti = some (.interface ms)) : ∃ t p, W.cell? ⟨g, 0, none⟩ = some (.iface t p) := by
 obtain ⟨ps, ⟨g0, t0, cs0, f0, p0, q0, hg0, ht0, hv0, hd0, _, e0⟩, _, hrows⟩ := h
 obtain rfl := Option.some.inj (hg.symm.trans hg0)
 obtain rfl := Option.some.inj (ht.symm.trans ht0)
 obtain ⟨l0⟩ := cs0
 obtain ⟨f1, u, v, e, hn, h1⟩ := iface_of_trod hi hd0
 refine ⟨u, v, ?_⟩
 rw [World.var?_cell hg0 hv0 0]
 simp only at e
 subst e
 rfl
end Go.Proofs
end
