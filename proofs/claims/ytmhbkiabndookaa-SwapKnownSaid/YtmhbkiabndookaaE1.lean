/- What is proved: a swap, a deal, a secret is equal to itself (layer 23). No condition. -/
import Derived.Test.YtmhbkiabndookaaV7
import Derived.Test.YtmhbkiabndookaaEq
namespace Go.Proofs.Ytmhbkiabndookaa
open Go.RowKit

theorem eq_hash (h : Nat → Int) (w : World) : (Op.equalIn 9999 27 (.agg #[.int .u8 (h 0), .int .u8 (h 1), .int .u8 (h 2), .int .u8 (h 3), .int .u8 (h 4), .int .u8 (h 5), .int .u8 (h 6), .int .u8 (h 7), .int .u8 (h 8), .int .u8 (h 9), .int .u8 (h 10), .int .u8 (h 11), .int .u8 (h 12), .int .u8 (h 13), .int .u8 (h 14), .int .u8 (h 15), .int .u8 (h 16), .int .u8 (h 17), .int .u8 (h 18), .int .u8 (h 19), .int .u8 (h 20), .int .u8 (h 21), .int .u8 (h 22), .int .u8 (h 23), .int .u8 (h 24), .int .u8 (h 25), .int .u8 (h 26), .int .u8 (h 27), .int .u8 (h 28), .int .u8 (h 29), .int .u8 (h 30), .int .u8 (h 31)]) (.agg #[.int .u8 (h 0), .int .u8 (h 1), .int .u8 (h 2), .int .u8 (h 3), .int .u8 (h 4), .int .u8 (h 5), .int .u8 (h 6), .int .u8 (h 7), .int .u8 (h 8), .int .u8 (h 9), .int .u8 (h 10), .int .u8 (h 11), .int .u8 (h 12), .int .u8 (h 13), .int .u8 (h 14), .int .u8 (h 15), .int .u8 (h 16), .int .u8 (h 17), .int .u8 (h 18), .int .u8 (h 19), .int .u8 (h 20), .int .u8 (h 21), .int .u8 (h 22), .int .u8 (h 23), .int .u8 (h 24), .int .u8 (h 25), .int .u8 (h 26), .int .u8 (h 27), .int .u8 (h 28), .int .u8 (h 29), .int .u8 (h 30), .int .u8 (h 31)])).run Try.prog w = .ok true w := by
  obtain ⟨i, hi⟩ := info_of_underlying Try.underlying5
  refine eq_array_refl Try.underlying27 hi Try.underlying5 (by kernel_rfl) 9997 _ (fun j hj => ?_) w
  match j, hj with | 0, _ => exact ⟨_, rfl⟩ | 1, _ => exact ⟨_, rfl⟩ | 2, _ => exact ⟨_, rfl⟩ | 3, _ => exact ⟨_, rfl⟩ | 4, _ => exact ⟨_, rfl⟩ | 5, _ => exact ⟨_, rfl⟩ | 6, _ => exact ⟨_, rfl⟩ | 7, _ => exact ⟨_, rfl⟩ | 8, _ => exact ⟨_, rfl⟩ | 9, _ => exact ⟨_, rfl⟩ | 10, _ => exact ⟨_, rfl⟩ | 11, _ => exact ⟨_, rfl⟩ | 12, _ => exact ⟨_, rfl⟩ | 13, _ => exact ⟨_, rfl⟩ | 14, _ => exact ⟨_, rfl⟩ | 15, _ => exact ⟨_, rfl⟩ | 16, _ => exact ⟨_, rfl⟩ | 17, _ => exact ⟨_, rfl⟩ | 18, _ => exact ⟨_, rfl⟩ | 19, _ => exact ⟨_, rfl⟩ | 20, _ => exact ⟨_, rfl⟩ | 21, _ => exact ⟨_, rfl⟩ | 22, _ => exact ⟨_, rfl⟩ | 23, _ => exact ⟨_, rfl⟩ | 24, _ => exact ⟨_, rfl⟩ | 25, _ => exact ⟨_, rfl⟩ | 26, _ => exact ⟨_, rfl⟩ | 27, _ => exact ⟨_, rfl⟩ | 28, _ => exact ⟨_, rfl⟩ | 29, _ => exact ⟨_, rfl⟩ | 30, _ => exact ⟨_, rfl⟩ | 31, _ => exact ⟨_, rfl⟩ | n + 32, hj => omega
theorem eq_hash8 (h : Nat → Int) (w : World) : (Op.equalIn 9998 27 (.agg #[.int .u8 (h 0), .int .u8 (h 1), .int .u8 (h 2), .int .u8 (h 3), .int .u8 (h 4), .int .u8 (h 5), .int .u8 (h 6), .int .u8 (h 7), .int .u8 (h 8), .int .u8 (h 9), .int .u8 (h 10), .int .u8 (h 11), .int .u8 (h 12), .int .u8 (h 13), .int .u8 (h 14), .int .u8 (h 15), .int .u8 (h 16), .int .u8 (h 17), .int .u8 (h 18), .int .u8 (h 19), .int .u8 (h 20), .int .u8 (h 21), .int .u8 (h 22), .int .u8 (h 23), .int .u8 (h 24), .int .u8 (h 25), .int .u8 (h 26), .int .u8 (h 27), .int .u8 (h 28), .int .u8 (h 29), .int .u8 (h 30), .int .u8 (h 31)]) (.agg #[.int .u8 (h 0), .int .u8 (h 1), .int .u8 (h 2), .int .u8 (h 3), .int .u8 (h 4), .int .u8 (h 5), .int .u8 (h 6), .int .u8 (h 7), .int .u8 (h 8), .int .u8 (h 9), .int .u8 (h 10), .int .u8 (h 11), .int .u8 (h 12), .int .u8 (h 13), .int .u8 (h 14), .int .u8 (h 15), .int .u8 (h 16), .int .u8 (h 17), .int .u8 (h 18), .int .u8 (h 19), .int .u8 (h 20), .int .u8 (h 21), .int .u8 (h 22), .int .u8 (h 23), .int .u8 (h 24), .int .u8 (h 25), .int .u8 (h 26), .int .u8 (h 27), .int .u8 (h 28), .int .u8 (h 29), .int .u8 (h 30), .int .u8 (h 31)])).run Try.prog w = .ok true w := by
  obtain ⟨i, hi⟩ := info_of_underlying Try.underlying5
  refine eq_array_refl Try.underlying27 hi Try.underlying5 (by kernel_rfl) 9996 _ (fun j hj => ?_) w
  match j, hj with | 0, _ => exact ⟨_, rfl⟩ | 1, _ => exact ⟨_, rfl⟩ | 2, _ => exact ⟨_, rfl⟩ | 3, _ => exact ⟨_, rfl⟩ | 4, _ => exact ⟨_, rfl⟩ | 5, _ => exact ⟨_, rfl⟩ | 6, _ => exact ⟨_, rfl⟩ | 7, _ => exact ⟨_, rfl⟩ | 8, _ => exact ⟨_, rfl⟩ | 9, _ => exact ⟨_, rfl⟩ | 10, _ => exact ⟨_, rfl⟩ | 11, _ => exact ⟨_, rfl⟩ | 12, _ => exact ⟨_, rfl⟩ | 13, _ => exact ⟨_, rfl⟩ | 14, _ => exact ⟨_, rfl⟩ | 15, _ => exact ⟨_, rfl⟩ | 16, _ => exact ⟨_, rfl⟩ | 17, _ => exact ⟨_, rfl⟩ | 18, _ => exact ⟨_, rfl⟩ | 19, _ => exact ⟨_, rfl⟩ | 20, _ => exact ⟨_, rfl⟩ | 21, _ => exact ⟨_, rfl⟩ | 22, _ => exact ⟨_, rfl⟩ | 23, _ => exact ⟨_, rfl⟩ | 24, _ => exact ⟨_, rfl⟩ | 25, _ => exact ⟨_, rfl⟩ | 26, _ => exact ⟨_, rfl⟩ | 27, _ => exact ⟨_, rfl⟩ | 28, _ => exact ⟨_, rfl⟩ | 29, _ => exact ⟨_, rfl⟩ | 30, _ => exact ⟨_, rfl⟩ | 31, _ => exact ⟨_, rfl⟩ | n + 32, hj => omega
theorem eq_hash10 (h : Nat → Int) (w : World) : (Op.equalIn 10000 27 (.agg #[.int .u8 (h 0), .int .u8 (h 1), .int .u8 (h 2), .int .u8 (h 3), .int .u8 (h 4), .int .u8 (h 5), .int .u8 (h 6), .int .u8 (h 7), .int .u8 (h 8), .int .u8 (h 9), .int .u8 (h 10), .int .u8 (h 11), .int .u8 (h 12), .int .u8 (h 13), .int .u8 (h 14), .int .u8 (h 15), .int .u8 (h 16), .int .u8 (h 17), .int .u8 (h 18), .int .u8 (h 19), .int .u8 (h 20), .int .u8 (h 21), .int .u8 (h 22), .int .u8 (h 23), .int .u8 (h 24), .int .u8 (h 25), .int .u8 (h 26), .int .u8 (h 27), .int .u8 (h 28), .int .u8 (h 29), .int .u8 (h 30), .int .u8 (h 31)]) (.agg #[.int .u8 (h 0), .int .u8 (h 1), .int .u8 (h 2), .int .u8 (h 3), .int .u8 (h 4), .int .u8 (h 5), .int .u8 (h 6), .int .u8 (h 7), .int .u8 (h 8), .int .u8 (h 9), .int .u8 (h 10), .int .u8 (h 11), .int .u8 (h 12), .int .u8 (h 13), .int .u8 (h 14), .int .u8 (h 15), .int .u8 (h 16), .int .u8 (h 17), .int .u8 (h 18), .int .u8 (h 19), .int .u8 (h 20), .int .u8 (h 21), .int .u8 (h 22), .int .u8 (h 23), .int .u8 (h 24), .int .u8 (h 25), .int .u8 (h 26), .int .u8 (h 27), .int .u8 (h 28), .int .u8 (h 29), .int .u8 (h 30), .int .u8 (h 31)])).run Try.prog w = .ok true w := by
  obtain ⟨i, hi⟩ := info_of_underlying Try.underlying5
  refine eq_array_refl Try.underlying27 hi Try.underlying5 (by kernel_rfl) 9998 _ (fun j hj => ?_) w
  match j, hj with | 0, _ => exact ⟨_, rfl⟩ | 1, _ => exact ⟨_, rfl⟩ | 2, _ => exact ⟨_, rfl⟩ | 3, _ => exact ⟨_, rfl⟩ | 4, _ => exact ⟨_, rfl⟩ | 5, _ => exact ⟨_, rfl⟩ | 6, _ => exact ⟨_, rfl⟩ | 7, _ => exact ⟨_, rfl⟩ | 8, _ => exact ⟨_, rfl⟩ | 9, _ => exact ⟨_, rfl⟩ | 10, _ => exact ⟨_, rfl⟩ | 11, _ => exact ⟨_, rfl⟩ | 12, _ => exact ⟨_, rfl⟩ | 13, _ => exact ⟨_, rfl⟩ | 14, _ => exact ⟨_, rfl⟩ | 15, _ => exact ⟨_, rfl⟩ | 16, _ => exact ⟨_, rfl⟩ | 17, _ => exact ⟨_, rfl⟩ | 18, _ => exact ⟨_, rfl⟩ | 19, _ => exact ⟨_, rfl⟩ | 20, _ => exact ⟨_, rfl⟩ | 21, _ => exact ⟨_, rfl⟩ | 22, _ => exact ⟨_, rfl⟩ | 23, _ => exact ⟨_, rfl⟩ | 24, _ => exact ⟨_, rfl⟩ | 25, _ => exact ⟨_, rfl⟩ | 26, _ => exact ⟨_, rfl⟩ | 27, _ => exact ⟨_, rfl⟩ | 28, _ => exact ⟨_, rfl⟩ | 29, _ => exact ⟨_, rfl⟩ | 30, _ => exact ⟨_, rfl⟩ | 31, _ => exact ⟨_, rfl⟩ | n + 32, hj => omega
theorem eql_deal (d : D) (w : World) : (binOp .eql 29 (.agg d.cells) (.agg d.cells)).run Try.prog w = .ok (.bool true) w := by
  have e := eq_hash d.h
  simp [D.cells, go_sem, e]
theorem eql_secret (h : Nat → Int) (w : World) : (binOp .eql 27 (.agg (hcells h)) (.agg (hcells h))).run Try.prog w = .ok (.bool true) w := by
  have e := eq_hash10 h
  simp only [hcells, binOp, Op.equal, Op.maxDepth]
  rw [Sem.run_bind, e]
  rfl
theorem eql_swap (s : S) (w : World) : (binOp .eql 31 (.agg s.cells) (.agg s.cells)).run Try.prog w = .ok (.bool true) w := by
  have e := eq_hash s.se
  have e8 := eq_hash8 s.d.h
  simp [S.cells, go_sem, e, e8]
def IsD (v : Value) : Prop := ∃ d : D, v = .agg d.cells
theorem isD_mk (d : D) : IsD (.agg d.cells) = True := eq_true ⟨d, rfl⟩
theorem eqg29 (x y : Operand) (xs ys : Array Value) (w : World) : (eqGuard .eql 29 x y (.agg xs) (.agg ys)).run Try.prog w = .ok () w := by kernel_rfl
theorem eql29 (w : World) (ρ : Operand → Value) (x y : Operand) (dst : Option Tmp) (r ty : TypeId) (pos : String) (af : Array Edge) (gd : Option (Nat × Bool)) (h1 : IsD (ρ x)) (h2 : ρ y = ρ x) :
    (execOp ρ ⟨dst, .binOp .eql 29 x y r, ty, pos, af, gd⟩).run Try.prog w = .ok (.value (.bool true)) w := by
  obtain ⟨d, hd⟩ := h1
  unfold execOp
  simp only [Sem.run_bind, h2, hd, eqg29, Result.andThen_ok, eql_deal, Sem.run_pure]
def IsS (v : Value) : Prop := ∃ d : S, v = .agg d.cells
theorem isS_mk (d : S) : IsS (.agg d.cells) = True := eq_true ⟨d, rfl⟩
theorem eqg31 (x y : Operand) (xs ys : Array Value) (w : World) : (eqGuard .eql 31 x y (.agg xs) (.agg ys)).run Try.prog w = .ok () w := by kernel_rfl
theorem eql31 (w : World) (ρ : Operand → Value) (x y : Operand) (dst : Option Tmp) (r ty : TypeId) (pos : String) (af : Array Edge) (gd : Option (Nat × Bool)) (h1 : IsS (ρ x)) (h2 : ρ y = ρ x) :
    (execOp ρ ⟨dst, .binOp .eql 31 x y r, ty, pos, af, gd⟩).run Try.prog w = .ok (.value (.bool true)) w := by
  obtain ⟨d, hd⟩ := h1
  unfold execOp
  simp only [Sem.run_bind, h2, hd, eqg31, Result.andThen_ok, eql_swap, Sem.run_pure]
def IsH (v : Value) : Prop := ∃ d : Nat → Int, v = .agg (hcells d)
theorem isH_mk (d : Nat → Int) : IsH (.agg (hcells d)) = True := eq_true ⟨d, rfl⟩
theorem eqg27 (x y : Operand) (xs ys : Array Value) (w : World) : (eqGuard .eql 27 x y (.agg xs) (.agg ys)).run Try.prog w = .ok () w := by kernel_rfl
theorem eql27 (w : World) (ρ : Operand → Value) (x y : Operand) (dst : Option Tmp) (r ty : TypeId) (pos : String) (af : Array Edge) (gd : Option (Nat × Bool)) (h1 : IsH (ρ x)) (h2 : ρ y = ρ x) :
    (execOp ρ ⟨dst, .binOp .eql 27 x y r, ty, pos, af, gd⟩).run Try.prog w = .ok (.value (.bool true)) w := by
  obtain ⟨d, hd⟩ := h1
  unfold execOp
  simp only [Sem.run_bind, h2, hd, eqg27, Result.andThen_ok, eql_secret, Sem.run_pure]
attribute [go_sem ↓] eql29 eql31 eql27
attribute [go_sem] isD_mk isS_mk isH_mk
end Go.Proofs.Ytmhbkiabndookaa
