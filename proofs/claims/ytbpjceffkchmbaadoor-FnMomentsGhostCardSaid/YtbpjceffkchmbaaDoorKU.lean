/- Contracts of ImageTurn and ImageMirror. Conditions: the slice reads as a list of integers. -/
import Derived.Test.YtbpjceffkchmbaaDoorKT
namespace Go.Proofs.YtbpjceffkchmbaaDoor
open Go.RowKit Go.Shelf
attribute [local go_sem] Oper.semAt_some
end Go.Proofs.YtbpjceffkchmbaaDoor
