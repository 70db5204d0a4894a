/- What is proved: the document's disk in the store; its cells; contracts of filled, New, strikes, Arm, Count, Down. No condition but those each law names. -/
import Derived.Test.YtcedgoaanlbldaaF1
import Derived.Test.YtcedgoaanlbldaaM3
namespace Go.Proofs.Ytcedgoaanlbldaa
open Sx hiding Sl
set_option maxRecDepth 100000

/-- A sector of the document's disk. -/
structure SecM where
  lv : Value
  lb : List Int
  tn : Bool
  ov : Value
  ob : List Int
  is : Bool
def SecM.cells (s : SecM) : List Value := [s.lv, .bool s.tn, s.ov, .bool s.is]
structure RefM where
  sec : Nat → SecM
  off : Bool
  armed : Bool
  more : Int
  done : Int
def secs (f : Nat → SecM) : Nat → List Value
  | 0 => []
  | n + 1 => secs f n ++ (f n).cells
def RefM.tail (R : RefM) : List Value := [.bool R.off, .bool R.armed, .int .i64 R.more, .int .i64 R.done]
def RefM.cells (R : RefM) : List Value := secs R.sec 512 ++ R.tail
theorem secs_len (f : Nat → SecM) : ∀ n, (secs f n).length = n * 4
  | 0 => rfl
  | n + 1 => by
    show (secs f n ++ (f n).cells).length = _
    rw [List.length_append, secs_len f n]
    show n * 4 + 4 = _
    omega
theorem secs_get (f : Nat → SecM) {i j : Nat} (hj : j < 4) : ∀ n, i < n → (secs f n)[i * 4 + j]? = (f i).cells[j]?
  | 0, h => by omega
  | n + 1, h => by
    show (secs f n ++ (f n).cells)[i * 4 + j]? = _
    by_cases e : i = n
    · subst e
      rw [List.getElem?_append_right (by rw [secs_len]; omega), secs_len, Nat.add_sub_cancel_left]
    · rw [List.getElem?_append_left (by rw [secs_len]; omega), secs_get f hj n (by omega)]
theorem RefM.len (R : RefM) : R.cells.length = 2052 := by unfold RefM.cells; rw [List.length_append, secs_len]; rfl
theorem RefM.sec_at (R : RefM) {i j : Nat} (hi : i < 512) (hj : j < 4) : R.cells[i * 4 + j]? = (R.sec i).cells[j]? := by
  unfold RefM.cells
  rw [List.getElem?_append_left (by rw [secs_len]; omega), secs_get _ hj _ hi]
theorem RefM.tail_at (R : RefM) (j : Nat) : R.cells[2048 + j]? = R.tail[j]? := by
  unfold RefM.cells
  rw [List.getElem?_append_right (by rw [secs_len]; omega), secs_len, show 2048 + j - 512 * 4 = j by omega]
theorem RefM.ext_cells {R : RefM} {l : List Value} (hl : l.length = 2052) (h1 : ∀ i j, i < 512 → j < 4 → l[i * 4 + j]? = (R.sec i).cells[j]?) (h2 : ∀ j, j < 4 → l[2048 + j]? = R.tail[j]?) : l = R.cells := by
  apply List.ext_getElem?
  intro k
  by_cases h : k < 2048
  · have := h1 (k / 4) (k % 4) (by omega) (Nat.mod_lt _ (by decide))
    rw [show k / 4 * 4 + k % 4 = k by omega] at this
    rw [this]
    have := R.sec_at (i := k / 4) (j := k % 4) (by omega) (Nat.mod_lt _ (by decide))
    rw [show k / 4 * 4 + k % 4 = k by omega] at this
    exact this.symm
  · by_cases h' : k < 2052
    · have := h2 (k - 2048) (by omega)
      rw [show 2048 + (k - 2048) = k by omega] at this
      rw [this]
      have := R.tail_at (k - 2048)
      rw [show 2048 + (k - 2048) = k by omega] at this
      exact this.symm
    · rw [List.getElem?_eq_none (by omega), List.getElem?_eq_none (by rw [R.len]; omega)]
theorem RefM.set_tail {R R' : RefM} {k : Nat} {v : Value} (hk : k < 4) (hs : R'.sec = R.sec) (ht : R.tail.set k v = R'.tail) : R.cells.set (2048 + k) v = R'.cells := by
  refine RefM.ext_cells (by rw [List.length_set, R.len]) (fun i j hi hj => ?_) fun j hj => ?_
  · rw [List.getElem?_set_ne (by omega), R.sec_at hi hj, hs]
  · rw [← ht]
    by_cases e : k = j
    · subst e
      rw [List.getElem?_set_self (by rw [R.len]; omega), List.getElem?_set_self (by exact hk)]
    · rw [List.getElem?_set_ne (by omega), List.getElem?_set_ne e, R.tail_at]
def upS (f : Nat → SecM) (i : Nat) (s : SecM) : Nat → SecM := fun k => if k = i then s else f k
theorem RefM.set_sec {R : RefM} {i k : Nat} {v : Value} {s : SecM} (hi : i < 512) (hk : k < 4) (hs : (R.sec i).cells.set k v = s.cells) : R.cells.set (i * 4 + k) v = { R with sec := upS R.sec i s }.cells := by
  refine RefM.ext_cells (by rw [List.length_set, R.len]) (fun a b ha hb => ?_) fun j hj => ?_
  · show _ = (upS R.sec i s a).cells[b]?
    unfold upS
    by_cases e : a = i
    · subst e
      rw [if_pos rfl, ← hs]
      by_cases e' : k = b
      · subst e'
        rw [List.getElem?_set_self (by rw [R.len]; omega), List.getElem?_set_self (by exact hk)]
      · rw [List.getElem?_set_ne (by omega), List.getElem?_set_ne e', R.sec_at ha hb]
    · rw [if_neg e, List.getElem?_set_ne (by omega), R.sec_at ha hb]
  · rw [List.getElem?_set_ne (by omega), R.tail_at]
    rfl
theorem RefM.over_sec {R : RefM} {i : Nat} (s : SecM) (hi : i < 512) : overV R.cells (i * 4) s.cells = { R with sec := upS R.sec i s }.cells := by
  have hl : s.cells.length = 4 := rfl
  refine RefM.ext_cells (by unfold overV; simp only [List.length_append, List.length_take, List.length_drop, R.len, hl]; omega) (fun a b ha hb => ?_) fun j hj => ?_
  · rw [overV_get _ _ _ (by rw [R.len, hl]; omega)]
    show _ = (upS R.sec i s a).cells[b]?
    unfold upS
    by_cases e : a = i
    · subst e
      rw [if_pos rfl, if_pos (by rw [hl]; omega), Nat.add_sub_cancel_left]
    · rw [if_neg e, if_neg (by rw [hl]; omega), R.sec_at ha hb]
  · rw [overV_get _ _ _ (by rw [R.len, hl]; omega), if_neg (by rw [hl]; omega), R.tail_at]
    rfl
/-- The disk is written over. -/
theorem sem_setR {S : List ConS} {LQ : LoopS} {K : Env → Ex → St → Prop} {ρ : Env} {ci base y k : Nat} {vs : List E} {t : Tree} {G : List Ob} {R R' : RefM} {v : Value} (hd : G[y]? = some (.ptr R.cells)) (hc : R.cells.set k v = R'.cells) (hk : k < 2052) (h1 : S[ci]? = some (conR (storeR 1)))
    (hv : v.cells.toList = [v]) (hv1 : v.oneCell' = true) (hvt : ∀ cs, v ≠ .tuple cs) (h2 : E.nams ρ lay0 vs = [tokAt y k, v, encG G])
    (h4 : treeSem S LQ K (ρ.from_ base ((Env.ofL []).ans (encG (G.set y (.ptr R'.cells))))) t) : treeSem S LQ K ρ (.call ci base vs t) :=
  sem_set1 hd (by rw [R.len]; exact hk) h1 hv hv1 hvt h2 (by rw [hc]; exact h4)
theorem set_at {G : List Ob} {y : Nat} {o o' : Ob} (h : G[y]? = some o) : (G.set y o')[y]? = some o' := List.getElem?_set_self (List.getElem?_eq_some_iff.1 h).1
/-- A handle of the document's disk: none, or a row of a whole sector's bytes. -/
def Hnd (G : List Ob) (v : Value) (bs : List Int) : Prop := (v = .slice none 0 0 ∧ bs = []) ∨ ∃ n, v = tok n ∧ G[n]? = some (.row 1 128 (u8s bs)) ∧ bs.length = 128
theorem Hnd.one {G : List Ob} {v : Value} {bs : List Int} (h : Hnd G v bs) : v.oneCell' = true := by rcases h with ⟨rfl, _⟩ | ⟨n, rfl, _⟩ <;> rfl
theorem Hnd.cells {G : List Ob} {v : Value} {bs : List Int} (h : Hnd G v bs) : v.cells.toList = [v] ∧ ∀ cs, v ≠ .tuple cs := by
  rcases h with ⟨rfl, _⟩ | ⟨n, rfl, _⟩
  · exact ⟨rfl, fun cs e => by cases e⟩
  · exact ⟨rfl, fun cs e => by cases e⟩
theorem Hnd.sl {G : List Ob} {v : Value} {bs : List Int} (h : Hnd G v bs) : Sx.Sl G v 1 bs.length (u8s bs) := by
  rcases h with ⟨rfl, rfl⟩ | ⟨n, rfl, h, hl⟩
  · exact .inl ⟨rfl, rfl, rfl⟩
  · exact dst_sl (.inr ⟨n, rfl, by rw [hl]; exact h⟩) (by rw [List.length_map, Nat.mul_one])
theorem Hnd.keep {G G' : List Ob} {v : Value} {bs : List Int} (h : Hnd G v bs) (hk : KeepRV G G') : Hnd G' v bs := h.imp id fun ⟨n, h1, h2, h3⟩ => ⟨n, h1, hk _ _ h2 (fun c e => by cases e) (fun c e => by cases e), h3⟩
theorem keepRV_set {G : List Ob} {y : Nat} {c c' : List Value} (h : G[y]? = some (.ptr c)) : KeepRV G (G.set y (.ptr c')) := set_rv h
theorem keepRV_of {G G' : List Ob} (h : ∀ (n : Nat) o, G[n]? = some o → G'[n]? = some o) : KeepRV G G' := fun n o ho _ _ => h n o ho
theorem KeepRV.trans {A B C : List Ob} (h : KeepRV A B) (h' : KeepRV B C) : KeepRV A C := fun n o ho h1 h2 => h' n o (h n o ho h1 h2) h1 h2
/-- The document's disk in the store. -/
structure IsRef (G : List Ob) (y : Nat) (R : RefM) : Prop where
  at_ : G[y]? = some (.ptr R.cells)
  hl : ∀ i, i < 512 → Hnd G (R.sec i).lv (R.sec i).lb
  ho : ∀ i, i < 512 → Hnd G (R.sec i).ov (R.sec i).ob
theorem IsRef.keep {G G' : List Ob} {y : Nat} {R : RefM} (h : IsRef G y R) (hk : KeepRV G G') (hy : G'[y]? = some (.ptr R.cells)) : IsRef G' y R := ⟨hy, fun i hi => (h.hl i hi).keep hk, fun i hi => (h.ho i hi).keep hk⟩
/-- filled. -/
def filR (G : List Ob) (l : List Value) (e : Env) : Prop := ∃ v bs, l = [v] ∧ Sx.Sl G v 1 bs.length (u8s bs) ∧ bs.length ≤ 1000 ∧ e.v 0 = cpV G (pad bs) ∧ e.g gv = encG (cpG G (pad bs))
def filC : Con := { mkCon 53 [] (.hnd 0) 2 with wr := 1 }
def rp : List Con := [loadC 3 (.int .i64 (.var 0)), loadC 4 (.bool (.var 0)), loadC 27 (.hnd 0), storeC 3, storeC 4, storeC 27, lenC 27, appC 27, bsC 27 1, idxC 75, storeC 74, boxC 77, lenC 23, idxC 23]
def rpS : List ConS := [conR (loadR (.int .i64 (.var 0))), conR (loadR (.bool (.var 0))), conR (loadR (.hnd 0)), conR (storeR 1), conR (storeR 1), conR (storeR 1), conR lenR, conR (appR 1 1), conR (bsR 1 1), conR (aidxR 4 512), conR (storeR 4), conR boxR, conR lenR, conR (idxR 1)]
theorem rp_holds : Cons Try.prog rp rpS :=
  ⟨load_holds (by kernel_rfl) rfl, load_holds (by kernel_rfl) rfl, load_holds (by kernel_rfl) rfl, store_holds (by kernel_rfl), store_holds (by kernel_rfl), store_holds (by kernel_rfl), len_holds Try.underlying27, app_ok (z := .int .u8 0) Try.underlying27 (by kernel_rfl) rfl, bs_ok (b := 1) (z := .int .u8 0) Try.underlying27 (by kernel_rfl) rfl, aidx_holds Try.underlying75 (by kernel_rfl), store_holds (by kernel_rfl), box_holds, len_holds Try.underlying23, idx_holds Try.underlying23 (by kernel_rfl), trivial⟩
def lenOf (G : List Ob) (v : Value) : Nat := match v with
  | .pointer (some a) => match G[a.block]? with
    | some (.row _ len _) => len
    | _ => 0
  | _ => 0
theorem lenOf_dst {G : List Ob} {v : Value} {s n : Nat} {xs : List Value} (h : Dst G v s n xs) : lenOf G v = n := by
  rcases h with ⟨rfl, rfl, _⟩ | ⟨d, rfl, h⟩
  · rfl
  · show (match G[d]? with | some (.row _ len _) => len | _ => 0) = n
    rw [h]
def fiInv (G : List Ob) (bs : List Int) (nv : Nat) (ρ : Env) : Prop := ∃ Gj xs, ∃ k : Nat, ρ.g (nv + 999) = encG Gj ∧ xs.length = bs.length + k ∧ (k = 0 ∨ xs.length ≤ 128) ∧ CpAt G Gj (ρ.v nv) xs ∧ cpS G (.slice none 0 0) [] (pad bs) = cpS Gj (ρ.v nv) xs (List.replicate (128 - bs.length - k) 0)
def fiLQ (G : List Ob) (bs : List Int) : LoopS := ⟨fun _ nv ρ => fiInv G bs nv ρ, fun _ nv ρ => 128 - lenOf (decG (ρ.g (nv + 999))) (ρ.v nv)⟩
def treeFilled : Tree :=
 (.call 0 2200 [(.hnd 0), (.var 199)]
 (.loop 2 4200 [(4200, (.hnd 2200)), (5199, (.var 3199))]
 (.call 7 6200 [(.hnd 4200), (.var 5199)]
 (.split (.cmp .lss (.var 6200) (.lit 128))
 (.call 9 9200 [(.int .u8 (.lit 0)), (.var 5199)]
 (.call 8 10200 [(.hnd 4200), (.hnd 9200), (.var 10199)]
 (.again 2 4200 [(4200, (.hnd 10200)), (5199, (.var 11199))])))
 (leafG (.hnd 4200) .nil 5199)))))
theorem fil_holds : filC.holds Try.prog (conR filR) := by
  refine wr_of 1 (c := mkCon 53 [] (.hnd 0) 2) (con_of_runG (cs := copyC :: rp) (S := conR copyR :: rpS) (LT := [(2, ⟨[(3, fun b => .hnd b)], [], [], true⟩)]) (depth := 1) (fuel := 10) (nv := 200) (av := [.hnd 0]) (T := treeFilled) ⟨copy_holds, rp_holds⟩ (by kernel_rfl) (by kernel_rfl) (by kernel_rfl) ?_)
    (fun G l e ⟨v, bs, _, _, _, _, hG⟩ => ⟨_, hG, (cpG G (pad bs)).drop G.length, by
      have h := cp_at G (pad bs)
      have hl := h.len
      apply List.ext_getElem?
      intro j
      by_cases hj : j < G.length
      · rw [List.getElem?_append_left hj, List.getElem?_eq_getElem hj]
        exact h.keep j _ (List.getElem?_eq_getElem hj)
      · rw [List.getElem?_append_right (by omega), List.getElem?_drop, show G.length + (j - G.length) = j by omega]⟩)
  rintro G l e0 ⟨v, bs, rfl, hv, hbl, q0, hG⟩
  have o1 := hv.one
  refine ⟨fiLQ G bs, (Env.ofL [v]).st (encG G), by show [v] = [oneOf v]; rw [oneOf_eq o1], rfl, ?_⟩
  have h0 := cp_at G bs
  refine sem_step G [v] ((Env.ofL [cpV G bs]).ans (encG (cpG G bs))) rfl (by show [oneOf v, _] = _; rw [oneOf_eq o1]; rfl) ⟨v, bs, rfl, hv, by omega, rfl, rfl⟩ ?_
  refine sem_loop (Env.from_ _ 4200 ((Env.ofL [cpV G bs]).ans (encG (cpG G bs)))) (Env.from_ag _ _ _) (by show [cpV G bs, _] = [oneOf (cpV G bs), _]; rw [oneOf_eq h0.dst.one]; rfl) ⟨_, bs, 0, rfl, rfl, .inl rfl, h0, ?_⟩ (by kernel_rfl) (fun ρ1 ρ2 h => ?_) (fun ρ hag hinv => ?_)
  · show cpS G (.slice none 0 0) [] (bs ++ List.replicate (128 - bs.length) 0) = _
    rw [cpS_app]
    rfl
  · show 128 - lenOf (decG (ρ2.g 5199)) (ρ2.v 4200) = 128 - lenOf (decG (ρ1.g 5199)) (ρ1.v 4200)
    rw [Env.ag_g h (show 5199 < 5200 by decide), (h 4200 (by decide)).2.2]
  obtain ⟨Gj, xs, k, hg, hxl, hk, hat, hcp⟩ := hinv
  have hg : ρ.g 5199 = encG Gj := hg
  have hat : CpAt G Gj (ρ.v 4200) xs := hat
  have hcp : cpS G (.slice none 0 0) [] (pad bs) = cpS Gj (ρ.v 4200) xs (List.replicate (128 - bs.length - k) 0) := hcp
  have hd := hat.dst.one
  have hsl := dst_sl hat.dst (by rw [List.length_map, Nat.mul_one])
  refine sem_step Gj [ρ.v 4200] (Env.ofL [.int .i64 xs.length]) rfl (by show [oneOf (ρ.v 4200), ρ.g 5199] = _; rw [hg, oneOf_eq hd]; rfl) ⟨_, 1, _, _, rfl, hsl, rfl⟩ ?_
  refine sem_split (fun h => ?_) (fun h => ?_)
  · have h : (xs.length : Int) < 128 := of_decide_eq_true h
    refine sem_app 0 hat (by omega) rfl rfl (by show [Value.int .u8 0, ρ.g 5199] = _; rw [hg]) (fun _ => by show [oneOf (ρ.v 4200), _, _] = _; rw [oneOf_eq hd]; rfl) fun d g h1 q1 g0 => ?_
    refine sem_again (Env.from_ _ 4200 ((Env.ofL [tok d]).ans (encG g))) (Env.from_ag _ _ _) rfl ⟨g, xs ++ [0], k + 1, rfl, by rw [List.length_append, hxl]; rfl, .inr (by rw [List.length_append, List.length_singleton]; omega), h1, ?_⟩ ?_
    · rw [hcp, show 128 - bs.length - k = (128 - bs.length - (k + 1)) + 1 by omega, List.replicate_succ, q1]
      rfl
    · show 128 - lenOf (decG (encG g)) (tok d) < 128 - lenOf (decG (ρ.g 5199)) (ρ.v 4200)
      rw [hg, decG_enc, decG_enc, lenOf_dst h1.dst, lenOf_dst hat.dst, List.length_append, List.length_singleton]
      omega
  · have h : ¬ (xs.length : Int) < 128 := of_decide_eq_false h
    have e : 128 - bs.length - k = 0 := by omega
    rw [e] at hcp
    refine sem_retG rfl ?_ trivial ?_
    · show oneOf (ρ.v 4200) = oneOf (e0.v 0)
      rw [q0]
      unfold cpV
      rw [hcp]
      rfl
    · rw [hG]
      unfold cpG
      rw [hcp]
      exact hg
theorem cpV_tok (G : List Ob) {bs : List Int} (h : bs ≠ []) : ∃ d, cpV G bs = tok d ∧ G.length ≤ d ∧ (cpG G bs)[d]? = some (.row 1 bs.length (u8s bs)) := by
  have hat := cp_at G bs
  rcases hat.dst with ⟨_, h1, _⟩ | ⟨d, hd, h1⟩
  · exact absurd (List.eq_nil_of_length_eq_zero h1) h
  · exact ⟨d, hd, hat.new d hd, h1⟩
/-- New. -/
def sec0 : SecM := ⟨.slice none 0 0, [], false, .slice none 0 0, [], false⟩
def ref0 : RefM := ⟨fun _ => sec0, false, false, 0, 0⟩
def rnewR (G : List Ob) (l : List Value) (e : Env) : Prop := l = [] ∧ e.i 0 = (G.length : Nat) ∧ e.g gv = encG (G ++ [.ptr ref0.cells])
def rnewC : Con := mkCon 18 [] (.pla (.var 0) (.lit 0) 0) 2
def newE : List E := ((List.range 512).flatMap fun _ => [.lit (.slice none 0 0), .bool (.lit false), .lit (.slice none 0 0), .bool (.lit false)]) ++ [.bool (.lit false), .bool (.lit false), .int .i64 (.lit 0), .int .i64 (.lit 0)]
def treeRNew : Tree := .call 11 2200 [.agg newE, .var 199] (leafG (.pla (.var 2200) (.lit 0) 0) .nil 3199)
theorem new_nam (ρ : Env) : E.nam ρ lay0 (.agg newE) = .agg ref0.cells.toArray := by kernel_rfl
theorem rnew_holds : rnewC.holds Try.prog (conR rnewR) := by
  refine con_of_runG (cs := rp) (S := rpS) (LT := []) (depth := 1) (fuel := 10) (nv := 200) (av := []) (T := treeRNew) rp_holds (by kernel_rfl) (by kernel_rfl) (by kernel_rfl) ?_
  rintro G l e0 ⟨rfl, q0, hG⟩
  refine ⟨noLoops, (Env.ofL []).st (encG G), rfl, rfl, ?_⟩
  refine sem_step G [.agg ref0.cells.toArray] ((Env.ofL [.int .i64 G.length]).ans (encG (G ++ [.ptr ref0.cells]))) rfl (by show [E.nam _ lay0 (.agg newE), _] = _; rw [new_nam]; rfl) ⟨_, rfl, ?_, fun cs e => (by cases e), ?_, rfl, rfl⟩ ?_
  · intro c hc
    have hc : c ∈ ref0.cells := by simpa [Value.cells] using hc
    obtain ⟨k, hk⟩ := List.getElem?_of_mem hc
    have hkl := (List.getElem?_eq_some_iff.1 hk).1
    rw [ref0.len] at hkl
    by_cases h : k < 2048
    · have := ref0.sec_at (i := k / 4) (j := k % 4) (by omega) (Nat.mod_lt _ (by decide))
      rw [show k / 4 * 4 + k % 4 = k by omega, hk] at this
      have hm := List.mem_of_getElem? this.symm
      simp [ref0, sec0, SecM.cells] at hm
      rcases hm with rfl | rfl | rfl | rfl <;> rfl
    · have := ref0.tail_at (k - 2048)
      rw [show 2048 + (k - 2048) = k by omega, hk] at this
      have hm := List.mem_of_getElem? this.symm
      simp [ref0, RefM.tail] at hm
      rcases hm with rfl | rfl <;> rfl
  · show 0 < (Value.cells (.agg ref0.cells.toArray)).size
    have := ref0.len
    simp [Value.cells, this]
  · exact sem_retG rfl (by show tokAt _ _ = tokAt (e0.i 0).toNat _; rw [q0]; rfl) trivial (by rw [hG]; rfl)
end Go.Proofs.Ytcedgoaanlbldaa
