/- What is proved: the walk of FrameKnown of layer 4. No condition. -/
import Derived.Test.YtjmhnflogbihdaaJ2
import Derived.Laws.MakeOwn
namespace Go.Proofs.Ytjmhnflogbihdaa
open Go.RowKit

def zeros (n : Nat) : Array Value := (bts (List.replicate n 0)).toArray
theorem zeros_size (n : Nat) : (zeros n).size = n := by simp [zeros, bts_length]
theorem make_any (w : World) (n : Nat) (hn : n ≤ 4096) (hz : madeCells (Value.int .u8 0).cells n = zeros n) : (Instr.makeSlice 22 (.int .i64 (n : Int)) (.int .i64 (n : Int))).run Try.prog w = .ok (.slice (some ⟨w.heap.size, 0, none⟩) n n) (w.alloc (.cells (zeros n) 5)) := by
  obtain ⟨i, hi, h1, h2, h3⟩ := info_parts (show (Try.prog.info? 5).map (fun i => (i.zero, i.size, i.bytes)) = some (some (.int .u8 0), 1, 1) by kernel_rfl)
  have := run_make (P := Try.prog) w 22 5 i (.int .u8 0) Try.underlying22 hi h1 .i64 .i64 (n : Int) (n : Int) (by omega) (Int.le_refl _) (by rw [h3]; omega) (by omega)
  rw [h2, Int.toNat_natCast, Nat.mul_one, hz] at this
  exact this
theorem make32 (w : World) : (Instr.makeSlice 22 (.int .i64 32) (.int .i64 32)).run Try.prog w = .ok (.slice (some ⟨w.heap.size, 0, none⟩) 32 32) (w.alloc (.cells (zeros 32) 5)) := make_any w 32 (by decide) (by kernel_rfl)
theorem make401 (w : World) : (Instr.makeSlice 22 (.int .i64 401) (.int .i64 401)).run Try.prog w = .ok (.slice (some ⟨w.heap.size, 0, none⟩) 401 401) (w.alloc (.cells (zeros 401) 5)) := make_any w 401 (by decide) (by kernel_rfl)
theorem make400 (w : World) : (Instr.makeSlice 22 (.int .i64 400) (.int .i64 400)).run Try.prog w = .ok (.slice (some ⟨w.heap.size, 0, none⟩) 400 400) (w.alloc (.cells (zeros 400) 5)) := make_any w 400 (by decide) (by kernel_rfl)
theorem zeros_own (w : World) (B n : Nat) (hB : B ≤ w.heap.size) (hn : n ≤ 4096) : (w.alloc (.cells (zeros n) 5)).ownsRow B 5 1 (.slice (some ⟨w.heap.size, 0, none⟩) n n) n (bts (List.replicate n 0)) := by
  have := own_new w B 5 (zeros n) hB (by rw [zeros_size]; simp only [maxLen]; omega)
  rw [zeros_size] at this
  exact this
theorem zeros_small (n : Nat) : Small (List.replicate n 0) := fun x hx => by have := List.eq_of_mem_replicate hx; omega

def R400 : List Nat := List.replicate 400 0
def D400 : List Nat := fr 255 R400
theorem d_len : D400.length = 407 := by rw [D400, fr_length, R400, List.length_replicate]
set_option maxRecDepth 100000 in
theorem d_bad : getE (D400.set 400 1) = 6 := by decide +kernel
theorem known1 : getE [0, 255, 255] = 2 := by kernel_rfl
theorem known2 : getE [1, 145, 1] = 5 := by kernel_rfl
theorem known3 : getE [1, 144, 1] = 4 := by kernel_rfl
theorem known4 : getE [] = 4 := by kernel_rfl
theorem known5 : ((csum (List.replicate 32 0) : Nat) : Int) = 2324772522 := by kernel_rfl
theorem known6 : ((csum (List.replicate 32 255) : Nat) : Int) = 1655221059 := by kernel_rfl
theorem known7 : ((csum [] : Nat) : Int) = 0 := by kernel_rfl

end Go.Proofs.Ytjmhnflogbihdaa
