/- What is proved: the walks of mangrovekit's small functions over bytes (layer 4): SameBytes, CopyBytes, markBytes. No condition. -/
import Derived.Test.YtaigdbnfhehclaaBytes
import Derived.Test.YtaigdbnfhehclaaRow
import Derived.Test.YtaigdbnfhehclaaChecked
import Derived.WalkSpells
import Derived.WalkLawsBesides
import Derived.Handy
import Derived.Maps.AppendAt
namespace Go.Proofs.Ytaigdbnfhehclaa
open Go.RowKit
set_option maxRecDepth 100000
attribute [local go_sem ↓] cutA_zero

theorem elemB : Elem Try.prog 32 5 1 := Elem.mk' Try.underlying32 (by kernel_rfl) (z := .int .u8 0) (bytes := 1) rfl (by decide) (by decide)

section
variable (w : World) (a : Option Addr) (len cap : Nat)
theorem size5 (w : World) : (sizeOf 5).run Try.prog w = .ok 1 w := by kernel_rfl
theorem slice22_lh (kl kh : IntKind) (l h : Int) (h0 : 0 ≤ l) (h1 : l ≤ h) (h2 : h ≤ cap) :
    (Instr.slice 32 (.slice a len cap) (some (.int kl l)) (some (.int kh h)) none).run Try.prog w = .ok (.slice (cutA a l.toNat cap) (h.toNat - l.toNat) (cap - l.toNat)) w := by
  rw [run_slice_lh w 32 a len cap Try.underlying32 kl kh l h h0 h1 h2]
  rfl
theorem slice22_h (kh : IntKind) (h : Int) (h0 : 0 ≤ h) (h2 : h ≤ cap) :
    (Instr.slice 32 (.slice a len cap) none (some (.int kh h)) none).run Try.prog w = .ok (.slice a h.toNat cap) w := by
  rw [run_slice_h w 32 a len cap Try.underlying32 kh h h0 h2]
  show Result.ok (Value.slice (cutA a 0 cap) _ _) w = _
  rw [cutA_zero]
  rfl
theorem slice22_l (kl : IntKind) (l : Int) (h0 : 0 ≤ l) (h1 : l ≤ len) :
    (Instr.slice 32 (.slice a len cap) (some (.int kl l)) none none).run Try.prog w = .ok (.slice (cutA a l.toNat cap) (len - l.toNat) (cap - l.toNat)) w := by
  rw [run_slice_l w 32 a len cap Try.underlying32 kl l h0 h1]
  rfl
theorem slice22_lhm (kl kh km : IntKind) (l h m : Int) (h0 : 0 ≤ l) (h1 : l ≤ h) (h2 : h ≤ m) (h3 : m ≤ cap) :
    (Instr.slice 32 (.slice a len cap) (some (.int kl l)) (some (.int kh h)) (some (.int km m))).run Try.prog w = .ok (.slice (cutA a l.toNat m.toNat) (h.toNat - l.toNat) (m.toNat - l.toNat)) w := by
  rw [run_slice_lhm w 32 a len cap Try.underlying32 kl kh km l h m h0 h1 h2 h3]
  rfl
end
attribute [go_sem high] slice22_lh slice22_h slice22_l slice22_lhm

theorem SameBytes_any {w : World} {ao bo : Option Addr} {n m c d : Nat} {l k : List Nat} (hl : Sl w ao n c (bts l)) (hk : Sl w bo m d (bts k)) (hn : n < 1099511627776) (hm : m < 1099511627776) : Calls Try.prog 41 #[.slice ao n c, .slice bo m d] w (Ret (.bool (decide (l = k))) w) := by
  have hln : l.length = n := by rw [← hl.len, bts_length]
  have hkn : k.length = m := by rw [← hk.len, bts_length]
  by_cases hnm : n = m
  · subst hnm
    go_enter Try.func41, Try.ntmps41
    go_wp2
    go_loopw [5] (fun i wr => ∃ j : Nat, j ≤ n ∧ i = .int .i64 j ∧ l.take j = k.take j ∧ Below w.heap.size w wr) (fun i _ => n - (intOf i).toNat)
    case atStart => exact ⟨0, by omega, rfl, rfl, by (repeat' (first | (with_reducible exact Below.refl _ _) | (with_reducible assumption) | (with_reducible refine Ext.up _ ?_) | (with_reducible refine Below.alloc ?_ ?_ _) | (with_reducible refine Below.drew ?_) | (with_reducible refine Below.setCell ?_ ?_ _) | (with_reducible refine Below.setRow_ ?_ ?_ _) | go_size))⟩
    case round =>
      obtain ⟨j, hj, rfl, hsame, hb⟩ := hrel
      by_cases hlt : j < n
      · obtain ⟨b, o, rfl, hbw, hc⟩ := hl.at (by omega)
        obtain ⟨b', o', rfl, hbw', hc'⟩ := hk.at (by omega)
        obtain ⟨x, hjx⟩ : ∃ x, l[j]? = some x := ⟨_, List.getElem?_eq_getElem (by omega)⟩
        obtain ⟨y, hjy⟩ : ∃ y, k[j]? = some y := ⟨_, List.getElem?_eq_getElem (by omega)⟩
        have hx := hc j _ (by rw [bts_get, hjx]; rfl)
        have hx' := hc' j _ (by rw [bts_get, hjy]; rfl)
        rw [← hb.cell (by exact hbw)] at hx
        rw [← hb.cell (by exact hbw')] at hx'
        have gx := ext_cell hx
        have gx' := ext_cell hx'
        by_cases hxy : x = y
        · subst hxy
          go_wp2
          (refine wp_region_grow (by kernel_rfl) (by kernel_rfl) ?_; (repeat (go_big_quiet_step ((fail)))); refine wpQuiet_nil ?_; rintro _ ⟨g, rfl⟩)
          go_wp2
          go_roundw
          case rel => exact ⟨j + 1, by omega, rfl, by rw [List.take_add_one, List.take_add_one, hsame, hjx, hjy], by (repeat' (first | (with_reducible exact Below.refl _ _) | (with_reducible assumption) | (with_reducible refine Ext.up _ ?_) | (with_reducible refine Below.alloc ?_ ?_ _) | (with_reducible refine Below.drew ?_) | (with_reducible refine Below.setCell ?_ ?_ _) | (with_reducible refine Below.setRow_ ?_ ?_ _) | go_size))⟩
          case measure => simp [intOf]; omega
        · have hxy' : ((x : Int) == (y : Int)) = false := by simp; omega
          go_wp2
          (refine wp_region_grow (by kernel_rfl) (by kernel_rfl) ?_; (repeat (go_big_quiet_step ((fail)))); refine wpQuiet_nil ?_; rintro _ ⟨g, rfl⟩)
          go_wp2
          go_ret
          have hne : ¬ l = k := fun e => hxy (by rw [e, hjy] at hjx; exact (Option.some.inj hjx).symm)
          rw [decide_eq_false hne]
          (refine Ret.mk ?_; (repeat' (first | (with_reducible exact Below.refl _ _) | (with_reducible assumption) | (with_reducible refine Ext.up _ ?_) | (with_reducible refine Below.alloc ?_ ?_ _) | (with_reducible refine Below.drew ?_) | (with_reducible refine Below.setCell ?_ ?_ _) | (with_reducible refine Below.setRow_ ?_ ?_ _) | go_size)))
      · go_wp2
        go_ret
        obtain rfl : j = n := by omega
        rw [← hln, List.take_length, hln, ← hkn, List.take_length] at hsame
        rw [decide_eq_true hsame]
        refine Ret.mk ?_
        (repeat' (first | (with_reducible exact Below.refl _ _) | (with_reducible assumption) | (with_reducible refine Ext.up _ ?_) | (with_reducible refine Below.alloc ?_ ?_ _) | (with_reducible refine Below.drew ?_) | (with_reducible refine Below.setCell ?_ ?_ _) | (with_reducible refine Below.setRow_ ?_ ?_ _) | go_size))
  · have hnm' : ¬ (n : Int) = m := by omega
    go_enter Try.func41, Try.ntmps41
    go_wp2
    go_ret
    have hne : ¬ l = k := fun e => hnm (by rw [← hln, ← hkn, e])
    rw [decide_eq_false hne]
    (refine Ret.mk ?_; (repeat' (first | (with_reducible exact Below.refl _ _) | (with_reducible assumption) | (with_reducible refine Ext.up _ ?_) | (with_reducible refine Below.alloc ?_ ?_ _) | (with_reducible refine Below.drew ?_) | (with_reducible refine Below.setCell ?_ ?_ _) | (with_reducible refine Below.setRow_ ?_ ?_ _) | go_size)))

theorem CopyBytes_any {w : World} {ao : Option Addr} {n c : Nat} {l : List Nat} (hl : Sl w ao n c (bts l)) (hn : n < 1099511627776) : Calls Try.prog 42 #[.slice ao n c] w (RetO 5 w.heap.size n (bts l) w) := by
  have hln : l.length = n := by rw [← hl.len, bts_length]
  go_enter Try.func42, Try.ntmps42
  go_wp2
  go_loopw [3, 4] (fun v i wr => ∃ j : Nat, j ≤ n ∧ i = .int .i64 j ∧ wr.ownsRow w.heap.size 5 1 v j (bts (l.take j)) ∧ Below w.heap.size w wr) (fun _ i _ => n - (intOf i).toNat)
  case atStart => exact ⟨0, by omega, rfl, World.ownsRow_nil _ _ _ _, by (repeat' (first | (with_reducible exact Below.refl _ _) | (with_reducible assumption) | (with_reducible refine Ext.up _ ?_) | (with_reducible refine Below.alloc ?_ ?_ _) | (with_reducible refine Below.drew ?_) | (with_reducible refine Below.setCell ?_ ?_ _) | (with_reducible refine Below.setRow_ ?_ ?_ _) | go_size))⟩
  case round =>
    obtain ⟨j, hj, rfl, hown, hb⟩ := hrel
    obtain ⟨ao', cap, rfl⟩ := own_form hown
    have hz := hb.size
    by_cases hlt : j < n
    · obtain ⟨b, o, rfl, hbw, hc⟩ := hl.at (by omega)
      obtain ⟨x, hjx⟩ : ∃ x, l[j]? = some x := ⟨_, List.getElem?_eq_getElem (by omega)⟩
      have hx := hc j _ (by rw [bts_get, hjx]; rfl)
      rw [← hb.cell (by exact hbw)] at hx
      go_wp2_with (at_builtin; refine wp_app1 elemB rfl _ _ rfl (B := w.heap.size) rfl hown rfl rfl (by omega) hz ?_)
      intro ao2 cap2 w2 hown2 hb2
      go_wp2
      go_roundw
      case rel => exact ⟨j + 1, by omega, rfl, by rw [List.take_add_one, bts_append, hjx]; exact hown2, hb.trans hb2⟩
      case measure => simp [intOf]; omega
    · go_wp2
      go_ret
      obtain rfl : j = n := by omega
      rw [← hln, List.take_length, hln] at hown
      exact ⟨ao', cap, rfl, hb, hown⟩

def marks : List Nat := [201, 208, 215, 222, 229]
theorem marks_at (j : Nat) (h : j < 5) : marks[j]? = some (201 + 7 * j) := by
  match j, h with
  | 0, _ | 1, _ | 2, _ | 3, _ | 4, _ => rfl

end Go.Proofs.Ytaigdbnfhehclaa
