/-
  Put over a pool.
-/
import Derived.Test.YtigkhglgoabjaaaF6
import Derived.Test.YtigkhglgoabjaaaF7
namespace Go.Proofs.Ytigkhglgoabjaaa
open Go.RowKit Go.Shelf

theorem put_pool (g : Gh) (t : Nat) (key : ByteArray) (z : Int) (w : World) (h : PoolIs w g) (ht : t < g.sh.length) (hks : key.size ≤ maxLen) (hz : 1 ≤ z) (hz2 : z ≤ 9223372036854775807) :
    Calls Try.prog 17 #[ptr g.bp, .int .i64 t, .string key, .int .i64 z] w (PutPost g t key z w) := by
  rcases (h.alloc (.cells #[ptr g.bp] 32)).look hks with ⟨hn, hl⟩ | ⟨x, hx, hxk, hl⟩
  · exact put_pool_new g t key z w h ht hks hz hz2 hn hl
  · exact put_pool_old g t key z w h ht hks hz hz2 x hx hxk hl
end Go.Proofs.Ytigkhglgoabjaaa
