/- What is proved: NetLast returns true, whatever comes in. No condition. -/
import Derived.Test.YteklnfajpignoaaL3
import Derived.Test.YteklnfajpignoaaN4
namespace Go.Proofs.Yteklnfajpignoaa
open Sx hiding Sl
set_option maxRecDepth 100000

theorem Last_any {w : World} {v : Value} {L : List AcW} (hL : ActsW w v L) (a who : Int) : Calls Try.prog 5 #[.int .i64 a, v, .int .i64 who] w (Ret (.bool true) w) := by
  obtain ⟨R, v', L', H, hA, hv, hin⟩ := acts_in hL
  have ov := hA.sl.one
  have := law_of_run (P := Try.prog) (cs := lc) (S := lcS) (LT := lLT) (depth := 0) (fuel := 10) (nv := 200) (f := 5) (av := [.int .i64 (.var 0), .hnd 1, .int .i64 (.var 2)]) (T := treeLast) lc_holds (by kernel_rfl) (by kernel_rfl) (by kernel_rfl) (vs := [.int .i64 a, v', .int .i64 who]) H (ro_all R)
    (fun u hu => by
      rw [List.length_map]
      simp only [List.mem_cons, List.not_mem_nil, or_false] at hu
      rcases hu with rfl | rfl | rfl
      · exact Inv.of_const fun _ => rfl
      · exact hin
      · exact Inv.of_const fun _ => rfl)
    ⟨lLQ (R.map RoW.ob) ((R.map RoW.ob).length + 1) (2 + pickI a 31) L', (Env.ofL [.int .i64 a, v', .int .i64 who]).st (encG (R.map RoW.ob)), by show _ = [Value.int .i64 a, oneOf v', Value.int .i64 who]; rw [oneOf_eq ov], rfl, last_sem a who hA (ro_all R)⟩
  rw [← hv]
  exact this
end Go.Proofs.Yteklnfajpignoaa
