/- What is proved: which operations on objects the code of layer 27 has, and what they do. No condition. -/
import Derived.Test.YteklnfajpignoaaSzE
import Derived.Test.YteklnfajpignoaaProg
namespace Go.Proofs.Yteklnfajpignoaa
open Go.RowKit Sx
set_option maxRecDepth 100000

def letE (n : Nat) : List E := [.int .i64 (.var n), .int .i64 (.var (n + 1)), .hnd (n + 2)]
/-- The operations that the net's functions have. -/
def pr : List Con := [loadC 3 (.int .i64 (.var 0)), loadC 51 (.hnd 0), loadC 61 (.hnd 0), loadC 42 (.agg (letE 0)), loadC 30 (.hnd 0), lenC 51, lenC 30, idxC 51, storeC 3, storeC 51, storeC 30, appC 51, bsC 51 1, appC 30, bsC 30 0, boxC 63, mmC 61, upC 61, luC 61 (.bool (.var 0)), eqC 30]
def prS : List ConS := [conR (loadR (.int .i64 (.var 0))), conR (loadR (.hnd 0)), conR (loadR (.hnd 0)), conR (loadRowR 3 (.agg (letE 0))), conR (loadR (.hnd 0)), conR lenR, conR lenR, conR (idxR 3), conR (storeR 1), conR (storeR 1), conR (storeR 1),
  conR (appR 3 40), conR (bsR 3 1), conR (appR 1 1), conR (bsR 1 0), conR boxR, conR mmR, conR (upR (IntsKey 2 .i64)), conR (luR (IntsKey 2 .i64) (.bool false) (.bool (.var 0))), conR (CmpR NilSl false)]
theorem key69 : KeyT Try.prog 69 (IntsKey 2 .i64) := keyInts_ok (s := 1) (b := 8) (z := .int .i64 0) Try.underlying69 (by kernel_rfl) Try.underlying3 (by kernel_rfl)
theorem pr_holds : Cons Try.prog pr prS :=
  ⟨load_holds (by kernel_rfl) rfl, load_holds (by kernel_rfl) rfl, load_holds (by kernel_rfl) rfl, loadRow_holds (by kernel_rfl) (by kernel_rfl) rfl, load_holds (by kernel_rfl) rfl,
    len_holds Try.underlying51, len_holds Try.underlying30, idx_holds Try.underlying51 (by kernel_rfl), store_holds (by kernel_rfl), store_holds (by kernel_rfl), store_holds (by kernel_rfl),
    app_ok (z := .agg #[.int .i64 0, .int .i64 0, .slice none 0 0]) Try.underlying51 (by kernel_rfl) rfl, bs_ok (b := 40) (z := .agg #[.int .i64 0, .int .i64 0, .slice none 0 0]) Try.underlying51 (by kernel_rfl) rfl,
    app_ok (z := .int .u8 0) Try.underlying30 (by kernel_rfl) rfl, bs_ok (b := 1) (z := .int .u8 0) Try.underlying30 (by kernel_rfl) rfl, box_holds, mm_holds, up_holds Try.underlying61 key69,
    lu_ok (s := 1) (b := 1) (z := .bool false) Try.underlying61 key69 (by kernel_rfl) (fun _ => rfl) rfl, (slice_holds Try.underlying30).1, trivial⟩
end Go.Proofs.Yteklnfajpignoaa
