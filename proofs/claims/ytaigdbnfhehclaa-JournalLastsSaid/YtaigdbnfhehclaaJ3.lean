/- What is proved: bytes.Equal, and the journal's head. No condition but those each law names. -/
import Derived.Test.YtaigdbnfhehclaaFE
import Derived.Laws.BytesArg
import Derived.Laws.BytesString
import Derived.Lib.Bytes
import Derived.Lib.Hide
namespace Go.Proofs.Ytaigdbnfhehclaa
open Go.RowKit
set_option maxRecDepth 100000

def u8l (l : List Nat) : List UInt8 := l.map UInt8.ofNat
theorem u8l_inj {l k : List Nat} (hl : Small l) (hk : Small k) (h : u8l l = u8l k) : l = k := by
  refine List.ext_getElem? fun i => ?_
  have e := congrArg (fun q => q[i]?) h
  unfold u8l at e
  simp only [List.getElem?_map] at e
  cases h1 : l[i]? with
  | none => cases h2 : k[i]? with
    | none => rfl
    | some y => rw [h1, h2] at e; cases e
  | some x => cases h2 : k[i]? with
    | none => rw [h1, h2] at e; cases e
    | some y =>
      rw [h1, h2] at e
      simp only [Option.map_some, Option.some.injEq] at e
      have a := hl x (List.mem_of_getElem? h1)
      have b := hk y (List.mem_of_getElem? h2)
      have := congrArg UInt8.toNat e
      simp only [UInt8.toNat_ofNat'] at this
      congr 1
      omega
/-- Bytes, as a string. -/
theorem conv_str {w : World} {ao : Option Addr} {n c : Nat} {l : List Nat} (hl : Sl w ao n c (bts l)) : ∃ s : ByteArray, (∀ g : Ext w, (convert 32 9 (.slice ao n c)).run Try.prog g.val = .ok (.string s) g.val) ∧ s.toList = u8l l := by
  have hln : l.length = n := by rw [← hl.len, bts_length]
  by_cases h0 : n = 0
  · subst h0
    obtain rfl : l = [] := List.eq_nil_of_length_eq_zero hln
    refine ⟨strOfNums [], fun g => ?_, by rw [Lib.strOfNums_toList]; rfl⟩
    rw [run_convert_bytes_string g.val 32 9 5 _ 0 c Try.underlying32 Try.underlying5 Try.underlying9]
    cases ao <;> simp [Conv.bytesToString, loadCells]
    all_goals rfl
  · obtain ⟨b, o, rfl, hb, hc⟩ := hl.at (by omega)
    refine ⟨strOfNums (l.map Int.ofNat), fun g => run_convert_bytes_arg (P := Try.prog) g.val 32 5 Try.underlying32 Try.underlying5 b o n c _ (by rw [List.length_map]; exact hln) (fun i hi => ?_) 9 Try.underlying9, ?_⟩
    · have hli : i < l.length := by omega
      have := hc i (.int .u8 (l[i] : Nat)) (by rw [bts_get, List.getElem?_eq_getElem hli]; rfl)
      rw [← g.cell b (o + i) hb] at this
      rw [this, List.getD_eq_getElem?_getD, List.getElem?_map, List.getElem?_eq_getElem hli]
      rfl
    · rw [Lib.strOfNums_toList]
      unfold Lib.bytesOf u8l
      rw [List.map_map]
      rfl
theorem Equal_any {w : World} {ao bo : Option Addr} {n m c d : Nat} {l k : List Nat} (hl : Sl w ao n c (bts l)) (hk : Sl w bo m d (bts k)) (sl : Small l) (sk : Small k) : Calls Try.prog 44 #[.slice ao n c, .slice bo m d] w (Ret (.bool (decide (l = k))) w) := by
  obtain ⟨s, hs, es⟩ := conv_str hl
  obtain ⟨t, ht, et⟩ := conv_str hk
  have hs := hs ⟨w, Below.refl _ _⟩
  have ht := ht ⟨w, Below.refl _ _⟩
  have e : (u8l l == u8l k) = decide (l = k) := by
    by_cases h : l = k
    · subst h; simp
    · rw [decide_eq_false h, beq_eq_false_iff_ne]
      exact fun e => h (u8l_inj sl sk e)
  go_enter Try.func44, Try.ntmps44
  go_wp2
  go_ret
  exact Ret.mk_of (Below.refl _ _) rfl

/-- A head's frame. -/
def headL (t : Nat) : List Nat := fr 255 (les t 8)
theorem headL_putL (t : Nat) : putL 255 (les t 8) = headL t ∧ putE 255 (les t 8).length = 0 := by
  have h : putE 255 (les t 8).length = 0 := by rw [les_length]; decide
  refine ⟨?_, h⟩
  unfold putL headL
  rw [if_pos h]
  rfl
theorem headL_len (t : Nat) : (headL t).length = 15 := by unfold headL fr hd; simp [les_length]
theorem pow_256 (j : Nat) : 2 ^ (8 * j) = 256 ^ j := by rw [Nat.pow_mul]
set_option maxHeartbeats 1000000 in
theorem Head_any (t : Nat) (ht : t < 9223372036854775808) (w : World) : Calls Try.prog 29 #[.int .i64 t] w (RetO 5 w.heap.size 15 (bts (headL t)) w) := by
  go_enter Try.func29, Try.ntmps29
  go_wp2
  go_loopw [3, 7] (fun v i wr => ∃ j : Nat, j ≤ 8 ∧ i = .int .i64 j ∧ wr.ownsRow w.heap.size 5 1 v j (bts (les t j)) ∧ Below w.heap.size w wr) (fun _ i _ => 8 - (intOf i).toNat)
  case atStart => exact ⟨0, by omega, rfl, World.ownsRow_nil _ _ _ _, Below.refl _ _⟩
  case round =>
    obtain ⟨j, hj, rfl, hown, hb⟩ := hrel
    obtain ⟨ao', cap, rfl⟩ := own_form hown
    have hz := hb.size
    by_cases hlt : j < 8
    · have hj4 : (j : Int) < 8 := by omega
      go_wp2_with (at_builtin; refine wp_app1 elemB rfl _ _ rfl (B := w.heap.size) rfl hown rfl rfl (by omega) hz ?_)
      intro ao2 cap2 w2 hown2 hb2
      have hown3 : w2.ownsRow w.heap.size 5 1 (.slice ao2 (j + 1) cap2) (j + 1) (bts (les t (j + 1))) := by
        rw [les_snoc, bts_append, ← pow_256]
        exact hown2
      clear hown2
      go_wp2
      go_roundw
      case rel => exact ⟨j + 1, by omega, rfl, hown3, hb.trans hb2⟩
      case measure => simp [intOf]; omega
    · obtain rfl : j = 8 := by omega
      have hsl := Sl.own hown
      have P := Put_any 255 hsl (les_small t 8) (by decide)
      unfold RetP at P
      rw [(headL_putL t).1, (headL_putL t).2, headL_len] at P
      go_wp2_with (go_at_call 47; refine P.mono ?_; rintro _ w2 ⟨ao2, cap2, rfl, hb2, hown2⟩)
      go_ret
      exact ⟨ao2, cap2, rfl, hb.trans (hb2.mono hz), own_base hown2 hz⟩
end Go.Proofs.Ytaigdbnfhehclaa
