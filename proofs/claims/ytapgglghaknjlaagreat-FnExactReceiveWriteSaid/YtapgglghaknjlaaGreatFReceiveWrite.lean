/-
  FnExactReceiveWrite: for every argument the program's ReceiveWrite returns what the reference's returns. No condition.
-/
import Derived.Test.YtapgglghaknjlaaGreatEReceiveWrite
import Derived.Test.YtapgglghaknjlaaGreatReceiveS
import Derived.Test.YtapgglghaknjlaaGreatSrvCnt
namespace Go.Proofs.YtapgglghaknjlaaGreat
open Go.RowKit Go.ChangeShapes

theorem receiveWrite_holds : Rows.FnExactReceiveWriteSaid :=
  receiveWrite_of receiveF receiveCode
    (fun cs x cy y w h h' hs _ => specReceiveWrite cs cy x y w h h' ((small_server hs).mono (by omega)))
    (fun cs x cy y w h h' hs _ => implReceiveWrite cs cy x y w h h' ((small_server hs).mono (by omega)))
    (fun x y hs _ => by
      have h1 := receive_cnt (y := y) hs
      omega)
    (fun x hs => by
      have h1 := server_cnt hs
      omega)

end Go.Proofs.YtapgglghaknjlaaGreat
