/- What is proved: DiskStrikes returns true, whatever comes in. No condition. -/
import Derived.Test.YtcedgoaanlbldaaB6
namespace Go.Proofs.Ytcedgoaanlbldaa
open Sx hiding Sl
set_option maxRecDepth 100000

theorem ro_all (R : List RoW) : ∀ (n : Nat) o, (R.map RoW.ob)[n]? = some o → ∃ s len cells, o = .ro s len cells := fun n o ho => by
  rw [List.getElem?_map, Option.map_eq_some_iff] at ho
  obtain ⟨r, _, rfl⟩ := ho
  exact ⟨_, _, _, rfl⟩
theorem Strikes_any {w : World} {v : Value} {L : List PuW} (hL : PutsW w v L) (a : Int) : Calls Try.prog 5 #[.int .i64 a, v] w (Ret (.bool true) w) := by
  obtain ⟨R, v', L', H, hA, hv, hin⟩ := puts_in hL
  have ov := hA.sl.one
  have := law_of_run (P := Try.prog) (cs := stp) (S := stpS) (LT := [(7, ⟨[(6, fun b => .int .i64 (.var b))], [], [], true⟩)]) (depth := 1) (fuel := 20) (nv := 200) (f := 5) (av := [.int .i64 (.var 0), .hnd 1]) (T := treeStrikes) stp_holds (by kernel_rfl) (by kernel_rfl) (by kernel_rfl) (vs := [.int .i64 a, v']) H (ro_all R)
    (fun u hu => by
      rw [List.length_map]
      simp only [List.mem_cons, List.not_mem_nil, or_false] at hu
      rcases hu with rfl | rfl
      · exact Inv.of_const fun _ => rfl
      · exact hin)
    ⟨_, (Env.ofL [.int .i64 a, v']).st (encG (R.map RoW.ob)), by show _ = [Value.int .i64 a, oneOf v']; rw [oneOf_eq ov], rfl, strikes_sem a hA⟩
  rw [← hv]
  exact this
end Go.Proofs.Ytcedgoaanlbldaa
