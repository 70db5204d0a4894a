/- What is proved: the contracts of the disk's Read, and of full and reads. No condition but those each law names. -/
import Derived.Test.YtaigdbnfhehclaaA1
namespace Go.Proofs.Ytaigdbnfhehclaa
open Sx
set_option maxRecDepth 100000

abbrev zs : List Int := List.replicate 128 0
def rdBad (i : Int) : Bool := decide (i < 0) || decide (512 ≤ i)
def rdE (M : DiskM) (i : Int) : Int := if rdBad i then 1 else match getA M.lo i with
  | some _ => 0
  | none => match getA M.la i with
    | none => 0
    | some none => 24
    | some (some _) => 0
def rdBs (M : DiskM) (i : Int) : List Int := if rdBad i then [] else match getA M.lo i with
  | some bs => bs
  | none => match getA M.la i with
    | none => zs
    | some none => []
    | some (some q) => q.2
def rdGv (G : List Ob) (n : Nat) : List Ob := G ++ [.ptr (u8s zs)] ++ [.view n 1 0 128]
def rdG (G : List Ob) (M : DiskM) (i : Int) : List Ob := if rdBad i then G else match getA M.lo i with
  | some bs => G ++ [.ptr (u8s bs)] ++ [.view G.length 1 0 128]
  | none => match getA M.la i with
    | none => G ++ [.ptr (u8s zs)] ++ [.row 1 128 (u8s zs)]
    | some none => G ++ [.ptr (u8s zs)]
    | some (some q) => cloneG false (rdGv G q.1) (tok (G.length + 1)) 128 (u8s q.2)
def rdV (G : List Ob) (M : DiskM) (i : Int) : Value := if rdBad i then .slice none 0 0 else match getA M.lo i with
  | some _ => tok (G.length + 1)
  | none => match getA M.la i with
    | none => tok (G.length + 1)
    | some none => .slice none 0 0
    | some (some q) => cloneV (rdGv G q.1) (tok (G.length + 1)) 128
def rdR (G : List Ob) (l : List Value) (e : Env) : Prop := ∃ d M i, l = [tokAt d 0, .int .i64 i] ∧ IsDisk G d M ∧ e.v 0 = rdV G M i ∧ e.i 1 = rdE M i ∧ e.g gv = encG (rdG G M i)
def rdC : Con := mkCon 12 [] (.tup [.hnd 0, .int .i64 (.var 1)]) 2
theorem rdV_one (G : List Ob) (M : DiskM) (i : Int) : (rdV G M i).oneCell' = true := by
  unfold rdV
  split
  · rfl
  split
  · rfl
  split
  · rfl
  · rfl
  · exact cloneV_one _ _ _
theorem view_sl {G : List Ob} {n : Nat} {bs : List Int} (hl : bs.length = 128) (hn : G[n]? = some (.ptr (u8s bs))) : Sl (G ++ [.view n 1 0 128]) (tok G.length) 1 bs.length (u8s bs) := by
  have hlt := (List.getElem?_eq_some_iff.1 hn).1
  rw [hl]
  refine .inr ⟨n, 0, u8s bs, ⟨G.length, rfl, .inr ⟨by rw [List.getElem?_append_right (Nat.le_refl _), Nat.sub_self]; rfl, hlt⟩⟩, cells_ptr (by rw [List.getElem?_append_left hlt]; exact hn), by rw [List.length_map, hl]; omega, ?_⟩
  rw [List.drop_zero, List.take_of_length_le (by rw [List.length_map, hl]; omega)]
theorem rdBs_length {G : List Ob} {d : Nat} {M : DiskM} (h : IsDisk G d M) (i : Int) : (rdBs M i).length ≤ 128 := by
  unfold rdBs
  split
  · exact Nat.zero_le _
  split
  · rename_i bs hg
    rw [(h.lo _ (getA_mem hg)).1]
    exact Nat.le_refl _
  split
  · simp
  · exact Nat.zero_le _
  · rename_i q hg
    rw [(h.la _ _ (getA_mem hg)).2]
    exact Nat.le_refl _
/-- What is read: new objects, and the bytes. -/
theorem rd_at {G : List Ob} {d : Nat} {M : DiskM} (h : IsDisk G d M) (i : Int) : (∃ X, rdG G M i = G ++ X) ∧ Sl (rdG G M i) (rdV G M i) 1 (rdBs M i).length (u8s (rdBs M i)) := by
  unfold rdG rdV rdBs
  have hl1 : ∀ x : Ob, (G ++ [x]).length = G.length + 1 := fun x => by simp
  split
  · exact ⟨⟨[], by simp⟩, .inl ⟨rfl, rfl, rfl⟩⟩
  split
  · rename_i bs hg
    refine ⟨⟨_, List.append_assoc _ _ _⟩, ?_⟩
    have := view_sl (G := G ++ [.ptr (u8s bs)]) (n := G.length) (h.lo _ (getA_mem hg)).1 (by rw [List.getElem?_append_right (Nat.le_refl _), Nat.sub_self]; rfl)
    rw [hl1] at this
    exact this
  split
  · refine ⟨⟨_, List.append_assoc _ _ _⟩, dst_sl (.inr ⟨_, rfl, ?_⟩) (by rw [List.length_map, List.length_replicate])⟩
    rw [List.getElem?_append_right (by rw [hl1]; exact Nat.le_refl _), hl1, Nat.sub_self, List.length_replicate]
    rfl
  · exact ⟨⟨_, rfl⟩, .inl ⟨rfl, rfl, rfl⟩⟩
  · rename_i q hg
    obtain ⟨hq, hql⟩ := h.la _ _ (getA_mem hg)
    have hv := view_sl (G := G ++ [.ptr (u8s zs)]) (n := q.1) hql (Keeps.append _ _ _ _ hq)
    rw [hl1] at hv
    have hc := clone_row hv
    rw [hql] at hc ⊢
    obtain ⟨X, hX⟩ := cloneG_ext false (rdGv G q.1) (tok (G.length + 1)) 128 (u8s q.2)
    exact ⟨⟨[.ptr (u8s zs)] ++ [.view q.1 1 0 128] ++ X, by rw [hX]; unfold rdGv; simp⟩, dst_sl hc (by rw [List.length_map, hql])⟩
theorem rd_keeps {G : List Ob} {d : Nat} {M : DiskM} (h : IsDisk G d M) (i : Int) : Keeps G (rdG G M i) := by
  obtain ⟨X, hX⟩ := (rd_at h i).1
  rw [hX]
  exact Keeps.append _ _
theorem rd_len {G : List Ob} {d : Nat} {M : DiskM} (h : IsDisk G d M) (i : Int) : G.length ≤ (rdG G M i).length := by
  obtain ⟨X, hX⟩ := (rd_at h i).1
  rw [hX]
  simp
def treeRead : Tree :=
 (.split (.cmp .geq (.var 1) (.lit 0))
 (.split (.cmp .lss (.var 1) (.lit 512))
 (.call 4 18200 [(.pla (.var 0) (.lit 0) 1), (.var 199)]
 (.call 18 20200 [(.hnd 18200), (.int .i64 (.var 1)), (.var 199)]
 (.call 12 24200 [(.var 199)]
 (.call 8 25200 [(.pla (.var 24200) (.lit 0) 0), (.var 20200), (.var 25199)]
 (.split (.var 20201)
 (.call 13 28200 [(.pla (.var 24200) (.lit 0) 0), (.var 26199)]
 (leafG (.tup ([(.hnd 28200), (.int .i64 (.lit 0))])) .nil 29199))
 (.call 3 31200 [(.pla (.var 0) (.lit 0) 0), (.var 26199)]
 (.call 20 33200 [(.hnd 31200), (.int .i64 (.var 1)), (.var 26199)]
 (.split (.var 33201)
 (.call 22 43200 [(.hnd 33200), (.lit (.pointer none)), (.var 26199)]
 (.split (.var 43200)
 (leafG (.tup ([(.lit (.slice none 0 0)), (.int .i64 (.lit 24))])) .nil 26199)
 (.call 24 46200 [(.hnd 33200), (.var 26199)]
 (.call 13 47200 [(.pla (.var 46200) (.var 46201) 0), (.var 26199)]
 (.call 0 48200 [(.hnd 47200), (.var 48199)]
 (leafG (.tup ([(.hnd 48200), (.int .i64 (.lit 0))])) .nil 49199))))))
 (.call 25 42200 [(.int .i64 (.lit 128)), (.int .i64 (.lit 128)), (.var 26199)]
 (leafG (.tup ([(.hnd 42200), (.int .i64 (.lit 0))])) .nil 43199))))))))))
 (leafG (.tup ([(.lit (.slice none 0 0)), (.int .i64 (.lit 1))])) .nil 199))
 (leafG (.tup ([(.lit (.slice none 0 0)), (.int .i64 (.lit 1))])) .nil 199))
theorem rd_holds : rdC.holds Try.prog (conR rdR) := by
  refine con_of_runG (cs := cloneC :: dp) (S := conR cloneR :: dpS) (LT := []) (depth := 1) (fuel := 10) (nv := 200) (av := [dk, .int .i64 (.var 1)]) (T := treeRead) ⟨clone_holds, dp_holds⟩ (by kernel_rfl) (by kernel_rfl) (by kernel_rfl) ?_
  rintro G l e0 ⟨d, M, i, rfl, h, hv, he, hG⟩
  refine ⟨noLoops, (Env.ofL [.int .i64 d, .int .i64 i]).st (encG G), rfl, rfl, ?_⟩
  unfold rdV at hv
  unfold rdE at he
  unfold rdG at hG
  have bad : rdBad i = true → ∀ (ρ : Env) (h : Tr (List E)) (g : Nat), ρ.g g = encG G → treeSem (conR cloneR :: dpS) noLoops (KF [] (.tup [.hnd 0, .int .i64 (.var 1)]) e0 2) ρ (leafG (.tup [.lit (.slice none 0 0), .int .i64 (.lit 1)]) h g) := fun hb ρ h g hg => by
    rw [if_pos hb] at hv he hG
    exact sem_retG rfl (by show _ = Value.tuple #[oneOf (e0.v 0), .int .i64 (e0.i 1)]; rw [hv, he]; rfl) trivial (by rw [hG, hg])
  refine sem_split (fun h1 => ?_) (fun h1 => ?_)
  rotate_left
  · have h1 : ¬ i ≥ 0 := of_decide_eq_false h1
    exact bad (by unfold rdBad; rw [decide_eq_true (show i < 0 by omega)]; rfl) _ _ _ rfl
  have h1 : i ≥ 0 := of_decide_eq_true h1
  refine sem_split (fun h2 => ?_) (fun h2 => ?_)
  rotate_left
  · have h2 : ¬ i < 512 := of_decide_eq_false h2
    exact bad (by unfold rdBad; rw [decide_eq_true (show 512 ≤ i by omega), Bool.or_true]) _ _ _ rfl
  have h2 : i < 512 := of_decide_eq_true h2
  have hnb : rdBad i = false := by unfold rdBad; rw [decide_eq_false (by omega), decide_eq_false (by omega)]; rfl
  rw [hnb] at hv he hG
  simp only [Bool.false_eq_true, if_false] at hv he hG
  have hl1 : ∀ x : Ob, (G ++ [x]).length = G.length + 1 := fun x => by simp
  refine h.map2 rfl rfl ?_
  refine sem_step G [tok M.m2, .int .i64 i] (Env.ofL [loC (bytesOf M i), .bool (getA M.lo i).isSome]) rfl rfl ⟨M.m2, _, _, rfl, h.mo, ⟨i, rfl⟩, encA_int _ _, (by rw [getLo]; intro cs e; cases e), ?_⟩ ?_
  · rw [getLo, getL_enc, Option.isSome_map]
    rfl
  refine sem_fill (bytesOf_length h i) rfl rfl rfl rfl ?_
  have k1 := DStep.of_keeps h (Keeps.append G [Ob.ptr (u8s (bytesOf M i))]) (by simp)
  have hsec : (G ++ [Ob.ptr (u8s (bytesOf M i))])[G.length]? = some (.ptr (u8s (bytesOf M i))) := by rw [List.getElem?_append_right (Nat.le_refl _), Nat.sub_self]; rfl
  cases hg : getA M.lo i with
  | some bs =>
    rw [hg] at hv he hG
    have hb : bytesOf M i = bs := by unfold bytesOf; rw [hg]; rfl
    rw [hb] at hsec ⊢
    refine sem_split (fun _ => ?_) (fun h => by cases h)
    refine sem_step _ [tokAt G.length 0] ((Env.ofL [tok (G.length + 1)]).ans (encG (G ++ [Ob.ptr (u8s bs)] ++ [.view G.length 1 0 128]))) rfl rfl ⟨G.length, _, rfl, hsec, by rw [List.length_map, (h.lo _ (getA_mem hg)).1], by rw [hl1]; rfl, rfl⟩ ?_
    exact sem_retG rfl (by show _ = Value.tuple #[oneOf (e0.v 0), .int .i64 (e0.i 1)]; rw [hv, he]; rfl) trivial (by rw [hG]; rfl)
  | none =>
    rw [hg] at hv he hG
    have hb : bytesOf M i = zs := by unfold bytesOf; rw [hg]; rfl
    rw [hb] at hsec k1 ⊢
    refine sem_split (fun h => by cases h) (fun _ => ?_)
    refine k1.is_.map1 rfl rfl ?_
    have hgl : (getL (encA laC M.la) (.int .i64 i)).getD (.pointer none) = match getA M.la i with | none => .pointer none | some q => laC q := by
      rw [getL_enc]
      cases getA M.la i <;> rfl
    refine sem_step (G ++ [Ob.ptr (u8s zs)]) [tok M.m1, .int .i64 i] (Env.ofL [(getL (encA laC M.la) (.int .i64 i)).getD (.pointer none), .bool (getA M.la i).isSome]) rfl rfl ⟨M.m1, _, _, rfl, k1.is_.ma, ⟨i, rfl⟩, encA_int _ _, ?_, ?_⟩ ?_
    · rw [hgl]
      intro cs e
      cases hq : getA M.la i with
      | none => rw [hq] at e; cases e
      | some q => rw [hq] at e; cases q <;> cases e
    · show Value.tuple #[oneOf _, _] = _
      rw [hgl, getL_enc, Option.isSome_map]
      rw [oneOf_eq (by cases hq : getA M.la i with | none => rfl | some q => cases q <;> rfl)]
      rfl
    rw [hgl]
    cases hq : getA M.la i with
    | none =>
      rw [hq] at hv he hG
      refine sem_split (fun h => by cases h) (fun _ => ?_)
      refine sem_step (G ++ [Ob.ptr (u8s zs)]) [.int .i64 128, .int .i64 128] ((Env.ofL [tok (G.length + 1)]).ans (encG (G ++ [Ob.ptr (u8s zs)] ++ [.row 1 128 (u8s zs)]))) rfl rfl ⟨false, 128, .i64, .i64, rfl, by decide, by decide, by rw [hl1]; rfl, ?_⟩ ?_
      · show encG _ = encG _
        unfold u8s
        rw [List.map_replicate]
        rfl
      · exact sem_retG rfl (by show _ = Value.tuple #[oneOf (e0.v 0), .int .i64 (e0.i 1)]; rw [hv, he]; rfl) trivial (by rw [hG]; rfl)
    | some q =>
      rw [hq] at hv he hG
      refine sem_split (fun _ => ?_) (fun h => by cases h)
      cases q with
      | none =>
        refine sem_step (G ++ [Ob.ptr (u8s zs)]) [.pointer none, .pointer none] (Env.ofL [.bool true]) rfl rfl ⟨_, _, true, rfl, ⟨rfl, rfl, .inl rfl⟩, rfl⟩ ?_
        refine sem_split (fun _ => ?_) (fun h => by cases h)
        exact sem_retG rfl (by show _ = Value.tuple #[oneOf (e0.v 0), .int .i64 (e0.i 1)]; rw [hv, he]; rfl) trivial (by rw [hG]; rfl)
      | some q =>
        obtain ⟨hqG, hql⟩ := k1.is_.la _ _ (getA_mem hq)
        have hqlt := (List.getElem?_eq_some_iff.1 hqG).1
        refine sem_step (G ++ [Ob.ptr (u8s zs)]) [tokAt q.1 0, .pointer none] (Env.ofL [.bool false]) rfl rfl ⟨_, _, false, rfl, ⟨rfl, rfl, .inr ⟨_, _, rfl, hqlt⟩⟩, rfl⟩ ?_
        refine sem_split (fun h => by cases h) (fun _ => ?_)
        refine sem_step (G ++ [Ob.ptr (u8s zs)]) [tokAt q.1 0] (Env.ofL [.int .i64 q.1, .int .i64 0]) rfl rfl ⟨q.1, 0, rfl, hqlt, rfl, rfl⟩ ?_
        refine sem_step (G ++ [Ob.ptr (u8s zs)]) [tokAt q.1 0] ((Env.ofL [tok (G.length + 1)]).ans (encG (rdGv G q.1))) rfl rfl ⟨q.1, _, rfl, hqG, by rw [List.length_map, hql], by rw [hl1]; rfl, rfl⟩ ?_
        have hvs := view_sl hql hqG
        rw [hl1, hql] at hvs
        refine sem_step (rdGv G q.1) [tok (G.length + 1)] ((Env.ofL [cloneV (rdGv G q.1) (tok (G.length + 1)) 128]).ans (encG (cloneG false (rdGv G q.1) (tok (G.length + 1)) 128 (u8s q.2)))) rfl rfl ⟨false, _, _, _, rfl, hvs, by decide, rfl, rfl⟩ ?_
        exact sem_retG rfl (by show Value.tuple #[oneOf (cloneV (rdGv G q.1) (tok (G.length + 1)) 128), _] = Value.tuple #[oneOf (e0.v 0), .int .i64 (e0.i 1)]; rw [hv, he]; rfl) trivial (by rw [hG]; rfl)
end Go.Proofs.Ytaigdbnfhehclaa
