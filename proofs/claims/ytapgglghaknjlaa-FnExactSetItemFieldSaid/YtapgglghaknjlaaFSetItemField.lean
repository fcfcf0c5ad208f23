/-
  FnExactSetItemField: for every argument the program's SetItemField returns what the reference's returns. No condition.
-/
import Derived.Test.YtapgglghaknjlaaESetItemField
import Derived.Test.YtapgglghaknjlaaSetItem
import Derived.Test.YtapgglghaknjlaaStoreCnt
namespace Go.Proofs.Ytapgglghaknjlaa
open Go.RowKit Go.ChangeShapes

theorem setItemField_holds : Rows.FnExactSetItemFieldSaid :=
  setItemField_of setItemF setItemB
    (fun cs x cy y w h h' hs _ => specSetItemField cs cy x y w h h' (small_store hs))
    (fun cs x cy y w h h' hs _ => implSetItemField cs cy x y w h h' (small_store hs))
    (fun x y hs _ => by
      have h1 := store_cnt x
      have h2 := setItem_cnt x y
      omega)
    (fun x hs => by
      have h1 := store_cnt x
      omega)

end Go.Proofs.Ytapgglghaknjlaa
