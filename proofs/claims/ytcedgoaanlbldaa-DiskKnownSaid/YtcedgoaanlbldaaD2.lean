/- What is proved: contracts of the document's disk: strikes, Arm, Count, Down, Write, Read. No condition but those each law names. -/
import Derived.Test.YtcedgoaanlbldaaD1
namespace Go.Proofs.Ytcedgoaanlbldaa
open Sx hiding Sl
set_option maxRecDepth 100000

def rtC : E := .pla (.var 0) (.lit 0) 0
theorem RefM.off_at (R : RefM) : R.cells[2048]? = some (.bool R.off) := R.tail_at 0
theorem RefM.armed_at (R : RefM) : R.cells[2049]? = some (.bool R.armed) := R.tail_at 1
theorem RefM.more_at (R : RefM) : R.cells[2050]? = some (.int .i64 R.more) := R.tail_at 2
theorem RefM.done_at (R : RefM) : R.cells[2051]? = some (.int .i64 R.done) := R.tail_at 3
theorem RefM.set_off (R : RefM) (b : Bool) : R.cells.set 2048 (.bool b) = { R with off := b }.cells := R.set_tail (k := 0) (by decide) rfl rfl
theorem RefM.set_armed (R : RefM) (b : Bool) : R.cells.set 2049 (.bool b) = { R with armed := b }.cells := R.set_tail (k := 1) (by decide) rfl rfl
theorem RefM.set_more (R : RefM) (n : Int) : R.cells.set 2050 (.int .i64 n) = { R with more := n }.cells := R.set_tail (k := 2) (by decide) rfl rfl
theorem RefM.set_done (R : RefM) (n : Int) : R.cells.set 2051 (.int .i64 n) = { R with done := n }.cells := R.set_tail (k := 3) (by decide) rfl rfl
/-- Loads of the disk's cells. -/
theorem sem_getR {S : List ConS} {LQ : LoopS} {K : Env → Ex → St → Prop} {ρ : Env} {ci base y k : Nat} {vs : List E} {t : Tree} {G : List Ob} {cells : List Value} {c : Value} {r : E} (e : Env) (hd : G[y]? = some (.ptr cells)) (hk : cells[k]? = some c) (h1 : S[ci]? = some (conR (loadR r)))
    (hr : r.nam e lay0 = c) (h2 : E.nams ρ lay0 vs = [tokAt y k, encG G]) (h4 : treeSem S LQ K (ρ.from_ base e) t) : treeSem S LQ K ρ (.call ci base vs t) :=
  sem_step G [tokAt y k] e h1 h2 ⟨y, k, _, c, rfl, cells_ptr hd, hk, hr⟩ h4
/-- strikes. -/
def rstM (R : RefM) : RefM := if R.armed = true then (if 0 ≤ IntKind.i64.wrap (R.more - 1) then { R with more := IntKind.i64.wrap (R.more - 1) } else { R with more := IntKind.i64.wrap (R.more - 1), armed := false, off := true }) else R
def rstB (R : RefM) : Bool := R.armed && decide (IntKind.i64.wrap (R.more - 1) < 0)
def rstR (G : List Ob) (l : List Value) (e : Env) : Prop := ∃ y R, l = [tokAt y 0] ∧ G[y]? = some (.ptr (RefM.cells R)) ∧ e.b 0 = rstB R ∧ e.g gv = encG (G.set y (.ptr (rstM R).cells))
def rstC : Con := mkCon 52 [] (.bool (.var 0)) 2
theorem rstM_sec (R : RefM) : (rstM R).sec = R.sec := by
  unfold rstM
  split
  · split <;> rfl
  · rfl
def treeRStrikes : Tree :=
 (.call 1 4200 [(.pla (.var 0) (.lit 0) 2049), (.var 199)]
 (.split (.var 4200)
 (.call 0 10200 [(.pla (.var 0) (.lit 0) 2050), (.var 199)]
 (.call 3 14200 [(.pla (.var 0) (.lit 0) 2050), (.int .i64 (.bin .sub .i64 (.var 10200) (.lit 1))), (.var 199)]
 (.call 0 18200 [(.pla (.var 0) (.lit 0) 2050), (.var 15199)]
 (.split (.cmp .geq (.var 18200) (.lit 0))
 (leafG (.bool (.lit false)) .nil 15199)
 (.call 4 23200 [(.pla (.var 0) (.lit 0) 2049), (.bool (.lit false)), (.var 15199)]
 (.call 4 27200 [(.pla (.var 0) (.lit 0) 2048), (.bool (.lit true)), (.var 24199)]
 (leafG (.bool (.lit true)) .nil 28199)))))))
 (leafG (.bool (.lit false)) .nil 199)))
theorem rst_holds : rstC.holds Try.prog (conR rstR) := by
  refine con_of_runG (cs := rp) (S := rpS) (LT := []) (depth := 1) (fuel := 10) (nv := 200) (av := [rtC]) (T := treeRStrikes) rp_holds (by kernel_rfl) (by kernel_rfl) (by kernel_rfl) ?_
  rintro G l e0 ⟨y, R, rfl, hy, q0, hG⟩
  refine ⟨noLoops, (Env.ofL [.int .i64 y]).st (encG G), rfl, rfl, ?_⟩
  refine sem_getR (Env.ofL [.bool R.armed]) hy R.armed_at rfl rfl rfl ?_
  refine sem_split (fun h => ?_) (fun h => ?_)
  · have ha : R.armed = true := h
    obtain ⟨m, hm⟩ : ∃ m, m = IntKind.i64.wrap (R.more - 1) := ⟨_, rfl⟩
    refine sem_getR (Env.ofL [.int .i64 R.more]) hy R.more_at rfl rfl rfl ?_
    refine sem_setR (v := .int .i64 m) hy (R.set_more m) (by decide) rfl rfl rfl (fun cs e => by cases e) (by show [tokAt y 2050, Value.int .i64 (IntKind.i64.wrap (R.more - 1)), encG G] = _; rw [hm]) ?_
    have h1 := set_at (o' := .ptr { R with more := m }.cells) hy
    refine sem_getR (Env.ofL [.int .i64 m]) h1 (RefM.more_at { R with more := m }) rfl rfl rfl ?_
    refine sem_split (fun h => ?_) (fun h => ?_)
    · have h : m ≥ 0 := of_decide_eq_true h
      refine sem_retG rfl (by show Value.bool false = Value.bool (e0.b 0); rw [q0]; unfold rstB; rw [ha, ← hm, decide_eq_false (by omega)]; rfl) trivial ?_
      rw [hG]
      unfold rstM
      rw [if_pos ha, ← hm, if_pos h]
      rfl
    · have h : ¬ m ≥ 0 := of_decide_eq_false h
      refine sem_setR (v := .bool false) h1 (RefM.set_armed { R with more := m } false) (by decide) rfl rfl rfl (fun cs e => by cases e) rfl ?_
      have h2 := set_at (o' := .ptr { R with more := m, armed := false }.cells) h1
      refine sem_setR (v := .bool true) h2 (RefM.set_off { R with more := m, armed := false } true) (by decide) rfl rfl rfl (fun cs e => by cases e) rfl ?_
      refine sem_retG rfl (by show Value.bool true = Value.bool (e0.b 0); rw [q0]; unfold rstB; rw [ha, ← hm, decide_eq_true (by omega)]; rfl) trivial ?_
      rw [hG]
      unfold rstM
      rw [if_pos ha, ← hm, if_neg (by omega)]
      show encG _ = _
      rw [List.set_set, List.set_set]
  · have ha : R.armed = false := h
    refine sem_retG rfl (by show Value.bool false = Value.bool (e0.b 0); rw [q0]; unfold rstB; rw [ha]; rfl) trivial ?_
    rw [hG]
    unfold rstM
    rw [ha, if_neg (by simp), set_same hy]
    rfl
/-- Arm. -/
def rarM (R : RefM) (n : Int) : RefM := { R with armed := decide (n ≥ 0), more := n }
def rarR (G : List Ob) (l : List Value) (e : Env) : Prop := ∃ y R n, l = [tokAt y 0, .int .i64 n] ∧ G[y]? = some (.ptr (RefM.cells R)) ∧ e.g gv = encG (G.set y (.ptr (rarM R n).cells))
def rarC : Con := mkCon 37 [] (.tup []) 2
def treeRArm : Tree :=
 (.call 4 5200 [(.pla (.var 0) (.lit 0) 2049), (.bool (.cmp .geq (.var 1) (.lit 0))), (.var 199)]
 (.call 3 10200 [(.pla (.var 0) (.lit 0) 2050), (.int .i64 (.var 1)), (.var 6199)]
 (leafG (.tup ([])) .nil 11199)))
theorem rar_holds : rarC.holds Try.prog (conR rarR) := by
  refine con_of_runG (cs := rp) (S := rpS) (LT := []) (depth := 1) (fuel := 10) (nv := 200) (av := [rtC, .int .i64 (.var 1)]) (T := treeRArm) rp_holds (by kernel_rfl) (by kernel_rfl) (by kernel_rfl) ?_
  rintro G l e0 ⟨y, R, n, rfl, hy, hG⟩
  refine ⟨noLoops, (Env.ofL [.int .i64 y, .int .i64 n]).st (encG G), rfl, rfl, ?_⟩
  refine sem_setR (v := .bool (decide (n ≥ 0))) hy (R.set_armed _) (by decide) rfl rfl rfl (fun cs e => by cases e) rfl ?_
  have h1 := set_at (o' := .ptr { R with armed := decide (n ≥ 0) }.cells) hy
  refine sem_setR (v := .int .i64 n) h1 (RefM.set_more { R with armed := decide (n ≥ 0) } n) (by decide) rfl rfl rfl (fun cs e => by cases e) rfl ?_
  refine sem_retG rfl rfl trivial ?_
  rw [hG]
  show encG _ = _
  rw [List.set_set]
  rfl
/-- Count, Down. -/
def rcoR (G : List Ob) (l : List Value) (e : Env) : Prop := ∃ y R, l = [tokAt y 0] ∧ G[y]? = some (.ptr (RefM.cells R)) ∧ e.i 0 = R.done ∧ e.g gv = encG G
def rcoC : Con := mkCon 42 [] (.int .i64 (.var 0)) 2
def treeRCount : Tree :=
 (.call 0 4200 [(.pla (.var 0) (.lit 0) 2051), (.var 199)]
 (leafG (.int .i64 (.var 4200)) .nil 199))
theorem rco_holds : rcoC.holds Try.prog (conR rcoR) := by
  refine con_of_runG (cs := rp) (S := rpS) (LT := []) (depth := 1) (fuel := 10) (nv := 200) (av := [rtC]) (T := treeRCount) rp_holds (by kernel_rfl) (by kernel_rfl) (by kernel_rfl) ?_
  rintro G l e0 ⟨y, R, rfl, hy, q0, hG⟩
  refine ⟨noLoops, (Env.ofL [.int .i64 y]).st (encG G), rfl, rfl, ?_⟩
  refine sem_getR (Env.ofL [.int .i64 R.done]) hy R.done_at rfl rfl rfl ?_
  exact sem_retG rfl (by show Value.int .i64 R.done = Value.int .i64 (e0.i 0); rw [q0]) trivial (by rw [hG]; rfl)
def rdoR (G : List Ob) (l : List Value) (e : Env) : Prop := ∃ y R, l = [tokAt y 0] ∧ G[y]? = some (.ptr (RefM.cells R)) ∧ e.b 0 = R.off ∧ e.g gv = encG G
def rdoC : Con := mkCon 43 [] (.bool (.var 0)) 2
def treeRDown : Tree :=
 (.call 1 4200 [(.pla (.var 0) (.lit 0) 2048), (.var 199)]
 (leafG (.bool (.var 4200)) .nil 199))
theorem rdo_holds : rdoC.holds Try.prog (conR rdoR) := by
  refine con_of_runG (cs := rp) (S := rpS) (LT := []) (depth := 1) (fuel := 10) (nv := 200) (av := [rtC]) (T := treeRDown) rp_holds (by kernel_rfl) (by kernel_rfl) (by kernel_rfl) ?_
  rintro G l e0 ⟨y, R, rfl, hy, q0, hG⟩
  refine ⟨noLoops, (Env.ofL [.int .i64 y]).st (encG G), rfl, rfl, ?_⟩
  refine sem_getR (Env.ofL [.bool R.off]) hy R.off_at rfl rfl rfl ?_
  exact sem_retG rfl (by show Value.bool R.off = Value.bool (e0.b 0); rw [q0]) trivial (by rw [hG]; rfl)
/-- A sector's place. -/
theorem sem_sec {S : List ConS} {LQ : LoopS} {K : Env → Ex → St → Prop} {ρ : Env} {ci base y : Nat} {i : Int} {vs : List E} {t : Tree} {G : List Ob} {R : RefM} (hd : G[y]? = some (.ptr R.cells)) (hi : 0 ≤ i ∧ i < 512) (h1 : S[ci]? = some (conR (aidxR 4 512)))
    (h2 : E.nams ρ lay0 vs = [tokAt y 0, .int .i64 i, encG G]) (h4 : treeSem S LQ K (ρ.from_ base (Env.ofL [.int .i64 y, .int .i64 (i.toNat * 4 : Nat)])) t) : treeSem S LQ K ρ (.call ci base vs t) :=
  sem_step G [tokAt y 0, .int .i64 i] (Env.ofL [.int .i64 y, .int .i64 (i.toNat * 4 : Nat)]) h1 h2 ⟨y, 0, _, i, _, rfl, cells_ptr hd, hi.1, hi.2, rfl, by show ((i.toNat * 4 : Nat) : Int) = ((0 + i.toNat * 4 : Nat) : Int); rw [Nat.zero_add]⟩ h4
def r2 : List Con := filC :: rstC :: copyC :: pickC :: rp
def r2S : List ConS := conR filR :: conR rstR :: conR copyR :: pickS :: rpS
theorem r2_holds : Cons Try.prog r2 r2S := ⟨fil_holds, rst_holds, copy_holds, pick_holds, rp_holds⟩
/-- Write. -/
def rwBad (i : Int) (n : Nat) : Bool := decide (i < 0) || decide (512 ≤ i) || decide (128 < n)
def rwS (G : List Ob) (y : Nat) (R : RefM) : List Ob := G.set y (.ptr (rstM R).cells)
def rwH (G : List Ob) (y : Nat) (R : RefM) (i : Int) (bs : List Int) : SecM := { R.sec i.toNat with ov := cpV (rwS G y R) (pad bs), ob := pad bs, is := true }
def rwM1 (G : List Ob) (y : Nat) (R : RefM) (i : Int) (bs : List Int) : RefM := { rstM R with sec := upS R.sec i.toNat (rwH G y R i bs), done := inc R.done }
def rwM (G : List Ob) (y : Nat) (R : RefM) (i : Int) (bs : List Int) : RefM := if R.off then R else if rwBad i bs.length then R else rwM1 G y R i bs
def rwG (G : List Ob) (y : Nat) (R : RefM) (i : Int) (bs : List Int) : List Ob := if R.off then G else if rwBad i bs.length then G else (cpG (rwS G y R) (pad bs)).set y (.ptr (rwM1 G y R i bs).cells)
def rwE (R : RefM) (i : Int) (n : Nat) : Int := if R.off then 9 else if rwBad i n then 1 else if rstB R then 9 else 0
/-- A slice that stays, whatever structs and maps turn. -/
def SlK (G : List Ob) (v : Value) (s n : Nat) (cells : List Value) : Prop := ∀ G', KeepRV G G' → Sx.Sl G' v s n cells
theorem KeepRV.refl {G : List Ob} : KeepRV G G := fun _ _ h _ _ => h
theorem SlK.sl {G : List Ob} {v : Value} {s n : Nat} {cells : List Value} (h : SlK G v s n cells) : Sx.Sl G v s n cells := h G KeepRV.refl
theorem SlK.keep {G G' : List Ob} {v : Value} {s n : Nat} {cells : List Value} (h : SlK G v s n cells) (hk : KeepRV G G') : SlK G' v s n cells := fun X hX => h X (hk.trans hX)
def rwR (G : List Ob) (l : List Value) (e : Env) : Prop := ∃ y R i v bs, l = [tokAt y 0, .int .i64 i, v] ∧ IsRef G y R ∧ SlK G v 1 bs.length (u8s bs) ∧ e.i 0 = rwE R i bs.length ∧ e.g gv = encG (rwG G y R i bs)
def rwC : Con := mkCon 35 [] (.int .i64 (.var 0)) 2
theorem rst_done (R : RefM) : (rstM R).done = R.done := by
  unfold rstM
  split
  · split <;> rfl
  · rfl
theorem pad_ne {bs : List Int} (h : bs.length ≤ 128) : pad bs ≠ [] := fun e => by
  have := pad_length h
  rw [e] at this
  cases this
theorem upS_upS (f : Nat → SecM) (i : Nat) (a b : SecM) : upS (upS f i a) i b = upS f i b := by
  funext k
  unfold upS
  by_cases e : k = i
  · rw [if_pos e, if_pos e]
  · rw [if_neg e, if_neg e, if_neg e]
theorem upS_self (f : Nat → SecM) (i : Nat) (a : SecM) : upS f i a i = a := by unfold upS; rw [if_pos rfl]
def treeRWrite : Tree :=
 (.call 5 4200 [(.pla (.var 0) (.lit 0) 2048), (.var 199)]
 (.split (.var 4200)
 (leafG (.int .i64 (.lit 9)) .nil 199)
 (.split (.cmp .lss (.var 1) (.lit 0))
 (leafG (.int .i64 (.lit 1)) .nil 199)
 (.split (.cmp .geq (.var 1) (.lit 512))
 (leafG (.int .i64 (.lit 1)) .nil 199)
 (.call 10 13200 [(.hnd 2), (.var 199)]
 (.split (.cmp .gtr (.var 13200) (.lit 128))
 (leafG (.int .i64 (.lit 1)) .nil 199)
 (.call 1 17200 [(.pla (.var 0) (.lit 0) 0), (.var 199)]
 (.call 0 22200 [(.hnd 2), (.var 18199)]
 (.call 13 25200 [(.pla (.var 0) (.lit 0) 0), (.int .i64 (.var 1)), (.var 23199)]
 (.call 9 27200 [(.pla (.var 25200) (.var 25201) 2), (.hnd 22200), (.var 23199)]
 (.call 13 32200 [(.pla (.var 0) (.lit 0) 0), (.int .i64 (.var 1)), (.var 28199)]
 (.call 8 34200 [(.pla (.var 32200) (.var 32201) 3), (.bool (.lit true)), (.var 28199)]
 (.call 4 39200 [(.pla (.var 0) (.lit 0) 2051), (.var 35199)]
 (.call 7 43200 [(.pla (.var 0) (.lit 0) 2051), (.int .i64 (.bin .add .i64 (.var 39200) (.lit 1))), (.var 35199)]
 (.split (.var 17200)
 (leafG (.int .i64 (.lit 9)) .nil 44199)
 (leafG (.int .i64 (.lit 0)) .nil 44199))))))))))))))))
theorem rw_holds : rwC.holds Try.prog (conR rwR) := by
  refine con_of_runG (cs := r2) (S := r2S) (LT := []) (depth := 1) (fuel := 10) (nv := 200) (av := [rtC, .int .i64 (.var 1), .hnd 2]) (T := treeRWrite) r2_holds (by kernel_rfl) (by kernel_rfl) (by kernel_rfl) ?_
  rintro G l e0 ⟨y, R, i, v, bs, rfl, hR, hv, q0, hG⟩
  have hy := hR.at_
  have hv0 := hv.sl
  have o1 := hv0.one
  refine ⟨noLoops, (Env.ofL [.int .i64 y, .int .i64 i, v]).st (encG G), by show [_, _, v] = [_, _, oneOf v]; rw [oneOf_eq o1]; rfl, rfl, ?_⟩
  have bad : ∀ (ρ : Env), ρ.g 199 = encG G → rwBad i bs.length = true → R.off = false → treeSem r2S noLoops (KF [] (.int .i64 (.var 0)) e0 2) ρ (leafG (.int .i64 (.lit 1)) .nil 199) := fun ρ hg hb ho =>
    sem_retG rfl (by show Value.int .i64 1 = Value.int .i64 (e0.i 0); rw [q0]; unfold rwE; rw [ho, hb]; rfl) trivial (by rw [hG, hg]; unfold rwG; rw [ho, hb]; rfl)
  refine sem_getR (Env.ofL [.bool R.off]) hy R.off_at rfl rfl rfl ?_
  refine sem_split (fun h => ?_) (fun h => ?_)
  · have ho : R.off = true := h
    exact sem_retG rfl (by show Value.int .i64 9 = Value.int .i64 (e0.i 0); rw [q0]; unfold rwE; rw [ho]; rfl) trivial (by rw [hG]; unfold rwG; rw [ho]; rfl)
  have ho : R.off = false := h
  refine sem_split (fun h => ?_) (fun h => ?_)
  · have h : i < 0 := of_decide_eq_true h
    exact bad _ rfl (by unfold rwBad; rw [decide_eq_true h]; rfl) ho
  have hi0 : ¬ i < 0 := of_decide_eq_false h
  refine sem_split (fun h => ?_) (fun h => ?_)
  · have h : i ≥ 512 := of_decide_eq_true h
    exact bad _ rfl (by unfold rwBad; rw [decide_eq_true (show 512 ≤ i from h)]; simp) ho
  have hi1 : ¬ i ≥ 512 := of_decide_eq_false h
  refine sem_step G [v] (Env.ofL [.int .i64 bs.length]) rfl (by show [oneOf v, _] = _; rw [oneOf_eq o1]; rfl) ⟨v, 1, _, _, rfl, hv0, rfl⟩ ?_
  refine sem_split (fun h => ?_) (fun h => ?_)
  · have h : (bs.length : Int) > 128 := of_decide_eq_true h
    exact bad _ rfl (by unfold rwBad; rw [decide_eq_true (show 128 < bs.length by omega)]; simp) ho
  have hb : ¬ (bs.length : Int) > 128 := of_decide_eq_false h
  have hbad : rwBad i bs.length = false := by
    unfold rwBad
    rw [decide_eq_false hi0, decide_eq_false (by omega), decide_eq_false (by omega)]
    rfl
  have hrng : 0 ≤ i ∧ i < 512 := ⟨by omega, by omega⟩
  refine sem_step G [tokAt y 0] ((Env.ofL [.bool (rstB R)]).ans (encG (rwS G y R))) rfl rfl ⟨y, R, rfl, hy, rfl, rfl⟩ ?_
  have hrv : KeepRV G (rwS G y R) := set_rv hy
  have h1 : (rwS G y R)[y]? = some (.ptr (rstM R).cells) := set_at hy
  have hv1 := hv _ hrv
  obtain ⟨S1, hS1⟩ : ∃ x, x = rwS G y R := ⟨_, rfl⟩
  obtain ⟨Rs, hRs⟩ : ∃ x, x = rstM R := ⟨_, rfl⟩
  rw [← hS1] at hv1
  rw [← hS1, ← hRs] at h1
  have hat := cp_at S1 (pad bs)
  obtain ⟨d, hd, _, _⟩ := cpV_tok S1 (pad_ne (bs := bs) (by omega))
  obtain ⟨G2, hG2⟩ : ∃ x, x = cpG S1 (pad bs) := ⟨_, rfl⟩
  have h2 : G2[y]? = some (.ptr Rs.cells) := by rw [hG2]; exact hat.keep y _ h1
  have hin : i.toNat < 512 := by omega
  obtain ⟨s1, hs1⟩ : ∃ s : SecM, s = { Rs.sec i.toNat with ov := tok d, ob := pad bs } := ⟨_, rfl⟩
  obtain ⟨R3, hR3⟩ : ∃ R : RefM, R = { Rs with sec := upS Rs.sec i.toNat s1 } := ⟨_, rfl⟩
  obtain ⟨R4, hR4⟩ : ∃ R : RefM, R = { R3 with sec := upS R3.sec i.toNat { s1 with is := true } } := ⟨_, rfl⟩
  have hd4 : R4.done = R.done := by rw [hR4, hR3, hRs]; exact rst_done R
  refine sem_step S1 [v] ((Env.ofL [tok d]).ans (encG G2)) rfl (by show [oneOf v, encG (rwS G y R)] = _; rw [oneOf_eq o1, hS1]; rfl) ⟨v, bs, rfl, hv1, by omega, hd.symm, by rw [hG2]; rfl⟩ ?_
  refine sem_sec (y := y) (i := i) h2 hrng rfl rfl ?_
  refine sem_setR (R' := R3) (v := tok d) h2 ((RefM.set_sec (k := 2) (s := s1) hin (by decide) (by rw [hs1]; rfl)).trans (by rw [hR3])) (by omega) rfl rfl rfl (fun cs e => by cases e) (by show [tokAt y (i.toNat * 4 + 2), tok d, encG G2] = _; rfl) ?_
  have h3 := set_at (o' := .ptr R3.cells) h2
  refine sem_sec (y := y) (i := i) h3 hrng rfl rfl ?_
  refine sem_setR (R' := R4) (v := .bool true) h3 ((RefM.set_sec (k := 3) (s := { s1 with is := true }) hin (by decide) (by rw [hR3]; show (upS _ _ _ _).cells.set 3 _ = _; rw [upS_self]; rfl)).trans (by rw [hR4])) (by omega) rfl rfl rfl (fun cs e => by cases e) (by show [tokAt y (i.toNat * 4 + 3), Value.bool true, _] = _; rfl) ?_
  have h4 := set_at (o' := .ptr R4.cells) h3
  refine sem_getR (Env.ofL [.int .i64 R4.done]) h4 R4.done_at rfl rfl rfl ?_
  refine sem_setR (v := .int .i64 (inc R4.done)) h4 (R4.set_done _) (by decide) rfl rfl rfl (fun cs e => by cases e) rfl ?_
  have fin : encG ((((G2.set y (.ptr R3.cells)).set y (.ptr R4.cells)).set y (.ptr { R4 with done := inc R4.done }.cells))) = e0.g gv := by
    rw [hG, List.set_set, List.set_set]
    unfold rwG
    rw [ho, hbad, ← hS1, ← hG2]
    have e : { R4 with done := inc R4.done } = rwM1 G y R i bs := by
      unfold rwM1 rwH
      rw [hd4, hR4, hR3, upS_upS, hs1, hRs, rstM_sec, ← hS1, hd]
    rw [e]
    rfl
  refine sem_split (fun h => ?_) (fun h => ?_)
  · have h : rstB R = true := h
    exact sem_retG rfl (by show Value.int .i64 9 = Value.int .i64 (e0.i 0); rw [q0]; unfold rwE; rw [ho, hbad, h]; rfl) trivial fin
  · have h : rstB R = false := h
    exact sem_retG rfl (by show Value.int .i64 0 = Value.int .i64 (e0.i 0); rw [q0]; unfold rwE; rw [ho, hbad, h]; rfl) trivial fin
/-- Read. -/
def rrBad (i : Int) : Bool := decide (i < 0) || decide (512 ≤ i)
def rrE (R : RefM) (i : Int) : Int := if rrBad i then 1 else if (R.sec i.toNat).is then 0 else if (R.sec i.toNat).tn then 24 else 0
def rrBs (R : RefM) (i : Int) : List Int := if rrBad i then [] else if (R.sec i.toNat).is then (R.sec i.toNat).ob else if (R.sec i.toNat).tn then [] else pad (R.sec i.toNat).lb
def rrG (G : List Ob) (R : RefM) (i : Int) : List Ob := cpG G (rrBs R i)
def rrV (G : List Ob) (R : RefM) (i : Int) : Value := cpV G (rrBs R i)
def rrR (G : List Ob) (l : List Value) (e : Env) : Prop := ∃ y R i, l = [tokAt y 0, .int .i64 i] ∧ IsRef G y R ∧ e.v 0 = rrV G R i ∧ e.i 1 = rrE R i ∧ e.g gv = encG (rrG G R i)
def rrC : Con := mkCon 44 [] (.tup [.hnd 0, .int .i64 (.var 1)]) 2
theorem Hnd.len {G : List Ob} {v : Value} {bs : List Int} (h : Hnd G v bs) : bs.length ≤ 128 := by
  rcases h with ⟨_, rfl⟩ | ⟨n, _, _, h⟩
  · exact Nat.zero_le _
  · omega
def treeRRead : Tree :=
 (.split (.cmp .lss (.var 1) (.lit 0))
 (leafG (.tup ([(.lit (.slice none 0 0)), (.int .i64 (.lit 1))])) .nil 199)
 (.split (.cmp .geq (.var 1) (.lit 512))
 (leafG (.tup ([(.lit (.slice none 0 0)), (.int .i64 (.lit 1))])) .nil 199)
 (.call 13 12200 [(.pla (.var 0) (.lit 0) 0), (.int .i64 (.var 1)), (.var 199)]
 (.call 5 14200 [(.pla (.var 12200) (.var 12201) 3), (.var 199)]
 (.split (.var 14200)
 (.call 13 19200 [(.pla (.var 0) (.lit 0) 0), (.int .i64 (.var 1)), (.var 199)]
 (.call 6 21200 [(.pla (.var 19200) (.var 19201) 2), (.var 199)]
 (.call 2 22200 [(.hnd 21200), (.var 199)]
 (leafG (.tup ([(.hnd 22200), (.int .i64 (.lit 0))])) .nil 23199))))
 (.call 13 19200 [(.pla (.var 0) (.lit 0) 0), (.int .i64 (.var 1)), (.var 199)]
 (.call 5 21200 [(.pla (.var 19200) (.var 19201) 1), (.var 199)]
 (.split (.var 21200)
 (leafG (.tup ([(.lit (.slice none 0 0)), (.int .i64 (.lit 24))])) .nil 199)
 (.call 13 26200 [(.pla (.var 0) (.lit 0) 0), (.int .i64 (.var 1)), (.var 199)]
 (.call 6 28200 [(.pla (.var 26200) (.var 26201) 0), (.var 199)]
 (.call 0 29200 [(.hnd 28200), (.var 199)]
 (leafG (.tup ([(.hnd 29200), (.int .i64 (.lit 0))])) .nil 30199))))))))))))
theorem rr_holds : rrC.holds Try.prog (conR rrR) := by
  refine con_of_runG (cs := r2) (S := r2S) (LT := []) (depth := 1) (fuel := 10) (nv := 200) (av := [rtC, .int .i64 (.var 1)]) (T := treeRRead) r2_holds (by kernel_rfl) (by kernel_rfl) (by kernel_rfl) ?_
  rintro G l e0 ⟨y, R, i, rfl, hR, q0, q1, hG⟩
  have hy := hR.at_
  refine ⟨noLoops, (Env.ofL [.int .i64 y, .int .i64 i]).st (encG G), rfl, rfl, ?_⟩
  have nilR : ∀ (ρ : Env) (er : Int), ρ.g 199 = encG G → rrE R i = er → rrBs R i = [] → treeSem r2S noLoops (KF [] (.tup [.hnd 0, .int .i64 (.var 1)]) e0 2) ρ (leafG (.tup [.lit (.slice none 0 0), .int .i64 (.lit er)]) .nil 199) := fun ρ er hg he hb =>
    sem_retG rfl (by show Value.tuple #[.slice none 0 0, .int .i64 er] = Value.tuple #[oneOf (e0.v 0), .int .i64 (e0.i 1)]; rw [q0, q1, he]; unfold rrV; rw [hb]; rfl) trivial (by rw [hG, hg]; unfold rrG; rw [hb]; rfl)
  refine sem_split (fun h => ?_) (fun h => ?_)
  · have h : i < 0 := of_decide_eq_true h
    have hb : rrBad i = true := by unfold rrBad; rw [decide_eq_true h]; rfl
    exact nilR _ 1 rfl (by unfold rrE; rw [hb]; rfl) (by unfold rrBs; rw [hb]; rfl)
  have hi0 : ¬ i < 0 := of_decide_eq_false h
  refine sem_split (fun h => ?_) (fun h => ?_)
  · have h : i ≥ 512 := of_decide_eq_true h
    have hb : rrBad i = true := by unfold rrBad; rw [decide_eq_true (show 512 ≤ i from h)]; simp
    exact nilR _ 1 rfl (by unfold rrE; rw [hb]; rfl) (by unfold rrBs; rw [hb]; rfl)
  have hi1 : ¬ i ≥ 512 := of_decide_eq_false h
  have hb : rrBad i = false := by
    unfold rrBad
    rw [decide_eq_false hi0, decide_eq_false (by omega)]
    rfl
  have hrng : 0 ≤ i ∧ i < 512 := ⟨by omega, by omega⟩
  have hin : i.toNat < 512 := by omega
  have get := fun (j : Nat) (hj : j < 4) => R.sec_at hin hj
  refine sem_sec (y := y) (i := i) hy hrng rfl rfl ?_
  refine sem_getR (k := i.toNat * 4 + 3) (Env.ofL [.bool (R.sec i.toNat).is]) hy (get 3 (by decide)) rfl rfl rfl ?_
  refine sem_split (fun h => ?_) (fun h => ?_)
  · have hs : (R.sec i.toNat).is = true := h
    have hh := hR.ho _ hin
    have hbs : rrBs R i = (R.sec i.toNat).ob := by unfold rrBs; rw [hb, hs]; rfl
    refine sem_sec (y := y) (i := i) hy hrng rfl rfl ?_
    refine sem_getR (k := i.toNat * 4 + 2) (Env.ofL [(R.sec i.toNat).ov]) hy (get 2 (by decide)) rfl (oneOf_eq hh.one) rfl ?_
    refine sem_step G [(R.sec i.toNat).ov] ((Env.ofL [rrV G R i]).ans (encG (rrG G R i))) rfl (by show [oneOf (R.sec i.toNat).ov, _] = _; rw [oneOf_eq hh.one]; rfl) ⟨_, _, rfl, hh.sl, by have := hh.len; omega, by unfold rrV; rw [hbs]; rfl, by unfold rrG; rw [hbs]; rfl⟩ ?_
    exact sem_retG rfl (by show Value.tuple #[oneOf (rrV G R i), .int .i64 0] = Value.tuple #[oneOf (e0.v 0), .int .i64 (e0.i 1)]; rw [q0, q1]; unfold rrE; rw [hb, hs]; rfl) trivial (by rw [hG]; rfl)
  have hs : (R.sec i.toNat).is = false := h
  refine sem_sec (y := y) (i := i) hy hrng rfl rfl ?_
  refine sem_getR (k := i.toNat * 4 + 1) (Env.ofL [.bool (R.sec i.toNat).tn]) hy (get 1 (by decide)) rfl rfl rfl ?_
  refine sem_split (fun h => ?_) (fun h => ?_)
  · have ht : (R.sec i.toNat).tn = true := h
    exact nilR _ 24 rfl (by unfold rrE; rw [hb, hs, ht]; rfl) (by unfold rrBs; rw [hb, hs, ht]; rfl)
  · have ht : (R.sec i.toNat).tn = false := h
    have hh := hR.hl _ hin
    have hbs : rrBs R i = pad (R.sec i.toNat).lb := by unfold rrBs; rw [hb, hs, ht]; rfl
    refine sem_sec (y := y) (i := i) hy hrng rfl rfl ?_
    refine sem_getR (k := i.toNat * 4 + 0) (Env.ofL [(R.sec i.toNat).lv]) hy (get 0 (by decide)) rfl (oneOf_eq hh.one) rfl ?_
    refine sem_step G [(R.sec i.toNat).lv] ((Env.ofL [rrV G R i]).ans (encG (rrG G R i))) rfl (by show [oneOf (R.sec i.toNat).lv, _] = _; rw [oneOf_eq hh.one]; rfl) ⟨_, _, rfl, hh.sl, by have := hh.len; omega, by unfold rrV; rw [hbs]; rfl, by unfold rrG; rw [hbs]; rfl⟩ ?_
    exact sem_retG rfl (by show Value.tuple #[oneOf (rrV G R i), .int .i64 0] = Value.tuple #[oneOf (e0.v 0), .int .i64 (e0.i 1)]; rw [q0, q1]; unfold rrE; rw [hb, hs, ht]; rfl) trivial (by rw [hG]; rfl)
end Go.Proofs.Ytcedgoaanlbldaa
