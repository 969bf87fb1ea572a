/- Short names for three known facts on a list's cells, and for two truth values. -/
import Derived.Test.YtclkokkppgchfaaGreatRows
namespace Go
theorem sA_ {α : Type _} {l : List α} {i : Nat} {a : α} : l.toArray.setIfInBounds i a = (l.set i a).toArray := List.setIfInBounds_toArray l i a
theorem sB_ {α : Type _} {x y : α} {l : List α} : (x :: l).set 0 y = y :: l := rfl
theorem sC_ {α : Type _} {x y : α} {l : List α} {n : Nat} : (x :: l).set (n + 1) y = x :: l.set n y := rfl
abbrev t_ : Bool := true
abbrev f_ : Bool := false
end Go
