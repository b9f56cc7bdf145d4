/- Chapter 28: a world in which the listed variables hold what their initialisers lay. -/
import Derived.Test.YtjhaldbohblieaaGreatDoorG28
import Derived.Test.YtjhaldbohblieaaGreatDoorRows
import Derived.LaidLaws
import Derived.OpenShut
import Derived.Deep.DeepHandedRow
import Derived.Deep.DeepWitnessRowRef
set_option maxRecDepth 100000
namespace Go.VI.S
open Go.VI Go.Proofs
def strCells (l:List Str):Array Value:=(l.map fun s=>Value.string ⟨s.toArray⟩).toArray
noncomputable def laidWorld (os:Os):World :=
  let N:=(World.settled Tryz.prog os).heap.size
  let w0:=World.holding Tryz.prog os ⟨#[.cells (strCells otherL) 9,.cells (strCells builtinsL) 9,.cells (strCells wordsL) 9,.cells (strCells wordsL) 9],#[],[]⟩
  let put (h:Array Obj) (g:Nat) (cs:Array Value):Array Obj:=h.modify g fun
    | .cells _ t frozen=>.cells cs t frozen
    | o=>o
  let h1:=put w0.heap 0 #[.slice (some ⟨N,0,none⟩) 24 24]
  let h2:=put h1 1 #[.slice (some ⟨N+1,0,none⟩) 14 14]
  let h3:=put h2 2 #[.slice (some ⟨N+2,0,none⟩) 7 7]
  let h4:=put h3 3 #[.slice (some ⟨N+3,0,none⟩) 7 7]
  { w0 with heap:=h4 }
theorem laid_met (os:Os) (args:Array Value):laidMet Tryz.prog [("frustum/lexer.typeWords",Proofs.YtjhaldbohblieaaGreatDoor.Rows.laid_frustum_lexer_typeWords),("frustum/lexer.otherWords",Proofs.YtjhaldbohblieaaGreatDoor.Rows.laid_frustum_lexer_otherWords),("frustum/types.builtins",Proofs.YtjhaldbohblieaaGreatDoor.Rows.laid_frustum_types_builtins),("frustum/types.words",Proofs.YtjhaldbohblieaaGreatDoor.Rows.laid_frustum_types_words)] ((laidWorld os).forCall (fun _ _=>0) ⟨#[],args,[]⟩).memory :=
  laidMet_of_run' 8 (by kernel_rfl) (by kernel_rfl)
end Go.VI.S
