/- What is proved: contracts of the document's Sync and Crash. No condition but those each law names. -/
import Derived.Test.YtcedgoaanlbldaaD2
namespace Go.Proofs.Ytcedgoaanlbldaa
open Sx hiding Sl
set_option maxRecDepth 100000

/-- A sector is written over. -/
theorem sem_putS {S : List ConS} {LQ : LoopS} {K : Env → Ex → St → Prop} {ρ : Env} {ci base y : Nat} {vs : List E} {t : Tree} {G : List Ob} {R : RefM} {i : Nat} (s : SecM) (hd : G[y]? = some (.ptr R.cells)) (hi : i < 512) (h1 : S[ci]? = some (conR (storeR 4)))
    (o1 : s.lv.oneCell' = true) (o2 : s.ov.oneCell' = true) (h2 : E.nams ρ lay0 vs = [tokAt y (i * 4), .agg s.cells.toArray, encG G])
    (h4 : treeSem S LQ K (ρ.from_ base ((Env.ofL []).ans (encG (G.set y (.ptr { R with sec := upS R.sec i s }.cells))))) t) : treeSem S LQ K ρ (.call ci base vs t) := by
  refine sem_step G [tokAt y (i * 4), .agg s.cells.toArray] ((Env.ofL []).ans (encG (G.set y (.ptr { R with sec := upS R.sec i s }.cells)))) h1 h2 ⟨y, i * 4, _, .ptr R.cells, R.cells, rfl, hd, rfl, rfl, rfl, fun u hu => ?_, (fun cs e => by cases e), by rw [R.len]; omega, ?_⟩ h4
  · have hu : u ∈ s.cells := by simpa [Value.cells] using hu
    simp only [SecM.cells, List.mem_cons, List.not_mem_nil, or_false] at hu
    rcases hu with rfl | rfl | rfl | rfl
    · exact o1
    · rfl
    · exact o2
    · rfl
  · show encG _ = encG (G.set y (.ptr (overV R.cells (i * 4) (Value.cells (.agg s.cells.toArray)).toList)))
    rw [show (Value.cells (.agg s.cells.toArray)).toList = s.cells from by simp [Value.cells], R.over_sec s hi]
/-- Sync. -/
def rsyS (s : SecM) : SecM := ⟨s.ov, s.ob, false, .slice none 0 0, [], false⟩
def rsyF (n : Nat) (f : Nat → SecM) : Nat → SecM := fun k => if k < n ∧ (f k).is = true then rsyS (f k) else f k
theorem rsyF_at (f : Nat → SecM) (i : Nat) : rsyF i f i = f i := by unfold rsyF; rw [if_neg (by omega)]
theorem rsyF_zero (f : Nat → SecM) : rsyF 0 f = f := by funext k; unfold rsyF; rw [if_neg (by omega)]
theorem rsyF_yes {f : Nat → SecM} {i : Nat} (h : (f i).is = true) : upS (rsyF i f) i (rsyS (f i)) = rsyF (i + 1) f := by
  funext k
  unfold upS rsyF
  by_cases e : k = i
  · subst e
    rw [if_pos rfl, if_pos ⟨by omega, h⟩]
  · rw [if_neg e]
    by_cases h' : k < i ∧ (f k).is = true
    · rw [if_pos h', if_pos ⟨by omega, h'.2⟩]
    · rw [if_neg h', if_neg fun h'' => h' ⟨by omega, h''.2⟩]
theorem rsyF_no {f : Nat → SecM} {i : Nat} (h : (f i).is = false) : rsyF i f = rsyF (i + 1) f := by
  funext k
  unfold rsyF
  by_cases h' : k < i ∧ (f k).is = true
  · rw [if_pos h', if_pos ⟨by omega, h'.2⟩]
  · rw [if_neg h', if_neg fun h'' => h' ⟨(by
      by_cases e : k = i
      · subst e; rw [h] at h''; cases h''.2
      · omega), h''.2⟩]
def rsyM (R : RefM) : RefM := if R.off then R else if rstB R then rstM R else { rstM R with done := inc R.done, sec := rsyF 512 R.sec }
def rsyG (G : List Ob) (y : Nat) (R : RefM) : List Ob := if R.off then G else G.set y (.ptr (rsyM R).cells)
def rsyE (R : RefM) : Int := if R.off then 9 else if rstB R then 9 else 0
def rsyR (G : List Ob) (l : List Value) (e : Env) : Prop := ∃ y R, l = [tokAt y 0] ∧ IsRef G y R ∧ e.i 0 = rsyE R ∧ e.g gv = encG (rsyG G y R)
def rsyC : Con := mkCon 36 [] (.int .i64 (.var 0)) 2
def rsyInv (G : List Ob) (y : Nat) (R : RefM) (nv : Nat) (ρ : Env) : Prop := ∃ i : Nat, ρ.g (nv + 999) = encG (G.set y (.ptr { R with sec := rsyF i R.sec }.cells)) ∧ ρ.i nv = i ∧ i ≤ 512
def rsyLQ (G : List Ob) (y : Nat) (R : RefM) : LoopS := ⟨fun _ nv ρ => rsyInv G y R nv ρ, fun _ nv ρ => (512 - ρ.i nv).toNat⟩
def treeRSync : Tree :=
 (.call 5 4200 [(.pla (.var 0) (.lit 0) 2048), (.var 199)]
 (.split (.var 4200)
 (leafG (.int .i64 (.lit 9)) .nil 199)
 (.call 1 7200 [(.pla (.var 0) (.lit 0) 0), (.var 199)]
 (.split (.var 7200)
 (leafG (.int .i64 (.lit 9)) .nil 8199)
 (.call 4 13200 [(.pla (.var 0) (.lit 0) 2051), (.var 8199)]
 (.call 7 17200 [(.pla (.var 0) (.lit 0) 2051), (.int .i64 (.bin .add .i64 (.var 13200) (.lit 1))), (.var 8199)]
 (.loop 5 19200 [(19200, (.int .i64 (.lit 0))), (20199, (.var 18199))]
 (.split (.cmp .lss (.var 19200) (.lit 512))
 (.call 13 26200 [(.pla (.var 0) (.lit 0) 0), (.int .i64 (.var 19200)), (.var 20199)]
 (.call 5 28200 [(.pla (.var 26200) (.var 26201) 3), (.var 20199)]
 (.split (.var 28200)
 (.call 13 35200 [(.pla (.var 0) (.lit 0) 0), (.int .i64 (.var 19200)), (.var 20199)]
 (.call 6 37200 [(.pla (.var 35200) (.var 35201) 2), (.var 20199)]
 (.call 13 41200 [(.pla (.var 0) (.lit 0) 0), (.int .i64 (.var 19200)), (.var 20199)]
 (.call 14 42200 [(.pla (.var 41200) (.var 41201) 0), (.agg ([(.hnd 37200), (.bool (.lit false)), (.lit (.slice none 0 0)), (.bool (.lit false))])), (.var 20199)]
 (.again 5 19200 [(19200, (.int .i64 (.bin .add .i64 (.var 19200) (.lit 1)))), (20199, (.var 43199))])))))
 (.again 5 19200 [(19200, (.int .i64 (.bin .add .i64 (.var 19200) (.lit 1)))), (20199, (.var 20199))]))))
 (leafG (.int .i64 (.lit 0)) .nil 20199)))))))))
theorem rsy_holds : rsyC.holds Try.prog (conR rsyR) := by
  refine con_of_runG (cs := r2) (S := r2S) (LT := [(5, ⟨[(3, fun b => .int .i64 (.var b))], [], [], true⟩)]) (depth := 1) (fuel := 10) (nv := 200) (av := [rtC]) (T := treeRSync) r2_holds (by kernel_rfl) (by kernel_rfl) (by kernel_rfl) ?_
  rintro G l e0 ⟨y, R, rfl, hR, q0, hG⟩
  have hy := hR.at_
  obtain ⟨R2, hR2⟩ : ∃ x : RefM, x = { rstM R with done := inc R.done } := ⟨_, rfl⟩
  have hsec : R2.sec = R.sec := by rw [hR2]; exact rstM_sec R
  refine ⟨rsyLQ G y R2, (Env.ofL [.int .i64 y]).st (encG G), rfl, rfl, ?_⟩
  refine sem_getR (Env.ofL [.bool R.off]) hy R.off_at rfl rfl rfl ?_
  refine sem_split (fun h => ?_) (fun h => ?_)
  · have ho : R.off = true := h
    exact sem_retG rfl (by show Value.int .i64 9 = Value.int .i64 (e0.i 0); rw [q0]; unfold rsyE; rw [ho]; rfl) trivial (by rw [hG]; unfold rsyG; rw [ho]; rfl)
  have ho : R.off = false := h
  refine sem_step G [tokAt y 0] ((Env.ofL [.bool (rstB R)]).ans (encG (G.set y (.ptr (rstM R).cells)))) rfl rfl ⟨y, R, rfl, hy, rfl, rfl⟩ ?_
  have h1 := set_at (o' := .ptr (rstM R).cells) hy
  refine sem_split (fun h => ?_) (fun h => ?_)
  · have hb : rstB R = true := h
    exact sem_retG rfl (by show Value.int .i64 9 = Value.int .i64 (e0.i 0); rw [q0]; unfold rsyE; rw [ho, hb]; rfl) trivial (by rw [hG]; unfold rsyG rsyM; rw [ho, hb]; rfl)
  have hb : rstB R = false := h
  refine sem_getR (Env.ofL [.int .i64 R.done]) h1 (by rw [← rst_done R]; exact (rstM R).done_at) rfl rfl rfl ?_
  refine sem_setR (R' := R2) (k := 2051) (v := .int .i64 (inc R.done)) h1 (by rw [hR2]; exact (rstM R).set_done _) (by decide) rfl rfl rfl (fun cs e => by cases e) rfl ?_
  refine sem_loop (Env.from_ _ 19200 ((Env.ofL [.int .i64 0]).ans (encG (G.set y (.ptr R2.cells))))) (Env.from_ag _ _ _) (by show [Value.int .i64 0, encG (G.set y (.ptr R2.cells))] = [Value.int .i64 0, encG ((G.set y (.ptr (rstM R).cells)).set y (.ptr R2.cells))]; rw [List.set_set]) ⟨0, ?_, rfl, Nat.zero_le _⟩ (by kernel_rfl) (fun ρ1 ρ2 h => ?_) (fun ρ hag hinv => ?_)
  · show encG (G.set y (.ptr R2.cells)) = _
    rw [rsyF_zero]
  · show ((512 : Int) - ρ2.i 19200).toNat = ((512 : Int) - ρ1.i 19200).toNat
    rw [(h 19200 (by decide)).1]
  obtain ⟨i, hg, hi, hil⟩ := hinv
  have hi : ρ.i 19200 = i := hi
  have x0 : ρ.i 0 = (y : Nat) := (hag 0 (by decide)).1
  obtain ⟨Rx, hRx⟩ : ∃ x : RefM, x = { R2 with sec := rsyF i R2.sec } := ⟨_, rfl⟩
  obtain ⟨Gx, hGx⟩ : ∃ x, x = G.set y (.ptr Rx.cells) := ⟨_, rfl⟩
  rw [← hRx, ← hGx] at hg
  have hg : ρ.g 20199 = encG Gx := hg
  have hyx : Gx[y]? = some (.ptr Rx.cells) := by rw [hGx]; exact set_at hy
  refine sem_split (fun h => ?_) (fun h => ?_)
  · have h : ρ.i 19200 < 512 := of_decide_eq_true h
    have hin : i < 512 := by omega
    have hsx : Rx.sec i = R.sec i := by rw [hRx]; show rsyF i R2.sec i = _; rw [rsyF_at, hsec]
    have get := fun (j : Nat) (hj : j < 4) => Rx.sec_at hin hj
    have hoo := (hR.ho i hin).one
    have place : ∀ {ρ' : Env} {b : Nat} {t : Tree}, ρ'.i 0 = ρ.i 0 → ρ'.i 19200 = ρ.i 19200 → ρ'.g 20199 = ρ.g 20199 → treeSem r2S (rsyLQ G y R2) (KF [] (.int .i64 (.var 0)) e0 2) (ρ'.from_ b (Env.ofL [.int .i64 y, .int .i64 (i * 4 : Nat)])) t → treeSem r2S (rsyLQ G y R2) (KF [] (.int .i64 (.var 0)) e0 2) ρ' (.call 13 b [(.pla (.var 0) (.lit 0) 0), (.int .i64 (.var 19200)), (.var 20199)] t) := fun e1 e2 e3 ht =>
      sem_sec (y := y) (i := i) hyx ⟨by omega, by omega⟩ rfl (by show [tokAt (Env.i _ 0).toNat 0, Value.int .i64 (Env.i _ 19200), Env.g _ 20199] = _; rw [e1, e2, e3, x0, hi, hg]; rfl) ht
    refine place rfl rfl rfl ?_
    refine sem_getR (k := i * 4 + 3) (Env.ofL [.bool (Rx.sec i).is]) hyx (get 3 (by decide)) rfl rfl (by show [tokAt y (i * 4 + 3), ρ.g 20199] = _; rw [hg]) ?_
    refine sem_split (fun h => ?_) (fun h => ?_)
    · have hs : (R.sec i).is = true := by rw [← hsx]; exact h
      refine place rfl rfl rfl ?_
      refine sem_getR (k := i * 4 + 2) (Env.ofL [(R.sec i).ov]) hyx (by rw [get 2 (by decide), hsx]; rfl) rfl (oneOf_eq hoo) (by show [tokAt y (i * 4 + 2), ρ.g 20199] = _; rw [hg]) ?_
      refine place rfl rfl rfl ?_
      refine sem_putS (rsyS (R.sec i)) hyx hin rfl hoo rfl (by show [tokAt y (i * 4 + 0), Value.agg #[oneOf (R.sec i).ov, .bool false, .slice none 0 0, .bool false], ρ.g 20199] = _; rw [hg, oneOf_eq hoo]; rfl) ?_
      have e : { Rx with sec := upS Rx.sec i (rsyS (R.sec i)) } = { R2 with sec := rsyF (i + 1) R2.sec } := by
        rw [hRx]
        show RefM.mk _ _ _ _ _ = RefM.mk _ _ _ _ _
        rw [hsec, rsyF_yes hs]
      rw [e]
      refine sem_again (Env.from_ _ 19200 ((Env.ofL [.int .i64 ((i : Int) + 1)]).ans (encG (G.set y (.ptr { R2 with sec := rsyF (i + 1) R2.sec }.cells))))) (Env.from_ag _ _ _) ?_ ⟨i + 1, rfl, ?_, by omega⟩ ?_
      · show [Value.int .i64 ((i : Int) + 1), encG (G.set y _)] = [Value.int .i64 (IntKind.i64.wrap (ρ.i 19200 + 1)), encG (Gx.set y _)]
        rw [hi, wrap_in (by omega) (by omega), hGx, List.set_set]
      · show (i : Int) + 1 = _
        simp
      · show ((512 : Int) - ((i : Int) + 1)).toNat < ((512 : Int) - ρ.i 19200).toNat
        omega
    · have hs : (R.sec i).is = false := by rw [← hsx]; exact h
      refine sem_again (Env.from_ _ 19200 ((Env.ofL [.int .i64 ((i : Int) + 1)]).ans (encG Gx))) (Env.from_ag _ _ _) ?_ ⟨i + 1, ?_, ?_, by omega⟩ ?_
      · show [Value.int .i64 ((i : Int) + 1), encG Gx] = [Value.int .i64 (IntKind.i64.wrap (ρ.i 19200 + 1)), ρ.g 20199]
        rw [hi, wrap_in (by omega) (by omega), hg]
      · show encG Gx = _
        rw [hGx, hRx, hsec, rsyF_no hs]
      · show (i : Int) + 1 = _
        simp
      · show ((512 : Int) - ((i : Int) + 1)).toNat < ((512 : Int) - ρ.i 19200).toNat
        omega
  · have h : ¬ ρ.i 19200 < 512 := of_decide_eq_false h
    have hie : i = 512 := by omega
    refine sem_retG rfl (by show Value.int .i64 0 = Value.int .i64 (e0.i 0); rw [q0]; unfold rsyE; rw [ho, hb]; rfl) trivial ?_
    rw [hG]
    show ρ.g 20199 = _
    rw [hg, hGx, hRx, hie, hR2, rstM_sec]
    unfold rsyG rsyM
    rw [ho, hb]
    rfl
/-- Crash. -/
def rcrS (s : SecM) (k : Int) : SecM := if k = 1 then ⟨s.ov, s.ob, false, .slice none 0 0, [], false⟩ else if k = 2 then ⟨.slice none 0 0, [], true, .slice none 0 0, [], false⟩ else ⟨s.lv, s.lb, s.tn, .slice none 0 0, [], false⟩
def isF (f : Nat → SecM) : Nat → Bool := fun k => (f k).is
def rcrF (keep : List Int) (n : Nat) (f : Nat → SecM) : Nat → SecM := fun k => if k < n ∧ (f k).is = true then rcrS (f k) (fateAt keep (isF f) k) else f k
theorem rcrF_at (keep : List Int) (f : Nat → SecM) (i : Nat) : rcrF keep i f i = f i := by unfold rcrF; rw [if_neg (by omega)]
theorem rcrF_zero (keep : List Int) (f : Nat → SecM) : rcrF keep 0 f = f := by funext k; unfold rcrF; rw [if_neg (by omega)]
theorem rcrF_yes {keep : List Int} {f : Nat → SecM} {i : Nat} (h : (f i).is = true) : upS (rcrF keep i f) i (rcrS (f i) (fateAt keep (isF f) i)) = rcrF keep (i + 1) f := by
  funext k
  unfold upS rcrF
  by_cases e : k = i
  · subst e
    rw [if_pos rfl, if_pos ⟨by omega, h⟩]
  · rw [if_neg e]
    by_cases h' : k < i ∧ (f k).is = true
    · rw [if_pos h', if_pos ⟨by omega, h'.2⟩]
    · rw [if_neg h', if_neg fun h'' => h' ⟨by omega, h''.2⟩]
theorem rcrF_no {keep : List Int} {f : Nat → SecM} {i : Nat} (h : (f i).is = false) : rcrF keep i f = rcrF keep (i + 1) f := by
  funext k
  unfold rcrF
  by_cases h' : k < i ∧ (f k).is = true
  · rw [if_pos h', if_pos ⟨by omega, h'.2⟩]
  · rw [if_neg h', if_neg fun h'' => h' ⟨(by
      by_cases e : k = i
      · subst e; rw [h] at h''; cases h''.2
      · omega), h''.2⟩]
def rcrM (R : RefM) (keep : List Int) : RefM := { R with sec := rcrF keep 512 R.sec, off := false, armed := false }
def rcrG (G : List Ob) (y : Nat) (R : RefM) (keep : List Int) : List Ob := G.set y (.ptr (rcrM R keep).cells)
def rcrR (G : List Ob) (l : List Value) (e : Env) : Prop := ∃ y R v keep, l = [tokAt y 0, v] ∧ IsRef G y R ∧ SlK G v 1 keep.length (keep.map (Value.int .i64)) ∧ e.g gv = encG (rcrG G y R keep)
def rcrC : Con := mkCon 38 [] (.tup []) 2
def rcrInv (G : List Ob) (y : Nat) (R : RefM) (keep : List Int) (nv : Nat) (ρ : Env) : Prop := ∃ i : Nat, ρ.g (nv + 999) = encG (G.set y (.ptr { R with sec := rcrF keep i R.sec }.cells)) ∧ ρ.i nv = atN (isF R.sec) i ∧ ρ.i (nv + 1) = i ∧ i ≤ 512
def rcrLQ (G : List Ob) (y : Nat) (R : RefM) (keep : List Int) : LoopS := ⟨fun _ nv ρ => rcrInv G y R keep nv ρ, fun _ nv ρ => (512 - ρ.i (nv + 1)).toNat⟩
theorem fate_isR {keep : List Int} {is : Nat → Bool} {i : Nat} (hst : is i = true) {k : Int} (hk : keep[atN is i]? = some k) : fateAt keep is i = pickI k 3 := by
  unfold fateAt
  rw [if_pos hst]
  unfold fateK
  rw [show keep[((List.range i).filter is).length]? = some k from hk, pick_fate]
theorem fate_noR {keep : List Int} {is : Nat → Bool} {i : Nat} (h : is i = true → keep.length ≤ atN is i) : fateAt keep is i = 0 := by
  unfold fateAt
  split
  · rename_i hst
    unfold fateK
    rw [show keep[((List.range i).filter is).length]? = none from List.getElem?_eq_none (h hst)]
  · rfl
theorem fate_rngR (keep : List Int) (is : Nat → Bool) (j : Nat) : 0 ≤ fateAt keep is j ∧ fateAt keep is j < 3 := by
  unfold fateAt
  split
  · unfold fateK
    split
    · rename_i k _
      rw [← pick_fate]
      exact pick_rng (by omega) (by omega)
    · omega
  · omega
def treeRCrash : Tree :=
 (.loop 2 2200 [(2201, (.int .i64 (.lit 0))), (2200, (.int .i64 (.lit 0))), (3199, (.var 199))]
 (.split (.cmp .lss (.var 2201) (.lit 512))
 (.call 13 9200 [(.pla (.var 0) (.lit 0) 0), (.int .i64 (.var 2201)), (.var 3199)]
 (.call 5 11200 [(.pla (.var 9200) (.var 9201) 3), (.var 3199)]
 (.split (.var 11200)
 (.call 16 16200 [(.hnd 1), (.var 3199)]
 (.split (.cmp .lss (.var 2200) (.var 16200))
 (.call 17 20200 [(.hnd 1), (.int .i64 (.var 2200)), (.var 3199)]
 (.call 4 21200 [(.pla (.var 20200) (.var 20201) 0), (.var 3199)]
 (.call 3 22200 [(.int .i64 (.var 21200)), (.int .i64 (.lit 3))]
 (.split (.cmp .eql (.var 22200) (.lit 0))
 (.call 13 36200 [(.pla (.var 0) (.lit 0) 0), (.int .i64 (.var 2201)), (.var 3199)]
 (.call 6 38200 [(.pla (.var 36200) (.var 36201) 0), (.var 3199)]
 (.call 13 43200 [(.pla (.var 0) (.lit 0) 0), (.int .i64 (.var 2201)), (.var 3199)]
 (.call 5 45200 [(.pla (.var 43200) (.var 43201) 1), (.var 3199)]
 (.call 13 49200 [(.pla (.var 0) (.lit 0) 0), (.int .i64 (.var 2201)), (.var 3199)]
 (.call 14 50200 [(.pla (.var 49200) (.var 49201) 0), (.agg ([(.hnd 38200), (.bool (.var 45200)), (.lit (.slice none 0 0)), (.bool (.lit false))])), (.var 3199)]
 (.again 2 2200 [(2201, (.int .i64 (.bin .add .i64 (.var 2201) (.lit 1)))), (2200, (.int .i64 (.bin .add .i64 (.var 2200) (.lit 1)))), (3199, (.var 51199))])))))))
 (.split (.cmp .eql (.var 22200) (.lit 1))
 (.call 13 38200 [(.pla (.var 0) (.lit 0) 0), (.int .i64 (.var 2201)), (.var 3199)]
 (.call 6 40200 [(.pla (.var 38200) (.var 38201) 2), (.var 3199)]
 (.call 13 44200 [(.pla (.var 0) (.lit 0) 0), (.int .i64 (.var 2201)), (.var 3199)]
 (.call 14 45200 [(.pla (.var 44200) (.var 44201) 0), (.agg ([(.hnd 40200), (.bool (.lit false)), (.lit (.slice none 0 0)), (.bool (.lit false))])), (.var 3199)]
 (.again 2 2200 [(2201, (.int .i64 (.bin .add .i64 (.var 2201) (.lit 1)))), (2200, (.int .i64 (.bin .add .i64 (.var 2200) (.lit 1)))), (3199, (.var 46199))])))))
 (.split (.cmp .eql (.var 22200) (.lit 2))
 (.call 13 39200 [(.pla (.var 0) (.lit 0) 0), (.int .i64 (.var 2201)), (.var 3199)]
 (.call 14 40200 [(.pla (.var 39200) (.var 39201) 0), (.agg ([(.lit (.slice none 0 0)), (.bool (.lit true)), (.lit (.slice none 0 0)), (.bool (.lit false))])), (.var 3199)]
 (.again 2 2200 [(2201, (.int .i64 (.bin .add .i64 (.var 2201) (.lit 1)))), (2200, (.int .i64 (.bin .add .i64 (.var 2200) (.lit 1)))), (3199, (.var 41199))])))
 (.again 2 2200 [(2201, (.int .i64 (.bin .add .i64 (.var 2201) (.lit 1)))), (2200, (.int .i64 (.bin .add .i64 (.var 2200) (.lit 1)))), (3199, (.var 3199))])))))))
 (.call 13 30200 [(.pla (.var 0) (.lit 0) 0), (.int .i64 (.var 2201)), (.var 3199)]
 (.call 6 32200 [(.pla (.var 30200) (.var 30201) 0), (.var 3199)]
 (.call 13 37200 [(.pla (.var 0) (.lit 0) 0), (.int .i64 (.var 2201)), (.var 3199)]
 (.call 5 39200 [(.pla (.var 37200) (.var 37201) 1), (.var 3199)]
 (.call 13 43200 [(.pla (.var 0) (.lit 0) 0), (.int .i64 (.var 2201)), (.var 3199)]
 (.call 14 44200 [(.pla (.var 43200) (.var 43201) 0), (.agg ([(.hnd 32200), (.bool (.var 39200)), (.lit (.slice none 0 0)), (.bool (.lit false))])), (.var 3199)]
 (.again 2 2200 [(2201, (.int .i64 (.bin .add .i64 (.var 2201) (.lit 1)))), (2200, (.int .i64 (.bin .add .i64 (.var 2200) (.lit 1)))), (3199, (.var 45199))])))))))))
 (.again 2 2200 [(2201, (.int .i64 (.bin .add .i64 (.var 2201) (.lit 1)))), (2200, (.int .i64 (.var 2200))), (3199, (.var 3199))]))))
 (.call 8 8200 [(.pla (.var 0) (.lit 0) 2048), (.bool (.lit false)), (.var 3199)]
 (.call 8 12200 [(.pla (.var 0) (.lit 0) 2049), (.bool (.lit false)), (.var 9199)]
 (leafG (.tup ([])) .nil 13199)))))
theorem rcr_again {K : Env → Ex → St → Prop} {G : List Ob} {y : Nat} {R : RefM} {keep : List Int} {ρ' : Env} {i g : Nat} {ta : T} {Gx : List Ob} (hGx : Gx = G.set y (.ptr { R with sec := rcrF keep (i + 1) R.sec }.cells)) (hi : i < 512) (xi : ρ'.i 2201 = i) (hg : ρ'.g g = encG Gx)
    (hv : ta.den ρ' = (atN (isF R.sec) (i + 1) : Nat)) : treeSem r2S (rcrLQ G y R keep) K ρ' (.again 2 2200 [(2201, (.int .i64 (.bin .add .i64 (.var 2201) (.lit 1)))), (2200, .int .i64 ta), (3199, (.var g))]) := by
  refine sem_again (Env.from_ _ 2200 ((Env.ofL [.int .i64 (atN (isF R.sec) (i + 1) : Nat), .int .i64 ((i : Int) + 1)]).ans (encG Gx))) (Env.from_ag _ _ _) ?_ ⟨i + 1, ?_, rfl, ?_, by omega⟩ ?_
  · have e : Bound ρ' (Env.from_ ρ' 2200 ((Env.ofL [.int .i64 (atN (isF R.sec) (i + 1) : Nat), .int .i64 ((i : Int) + 1)]).ans (encG Gx))) [(2201, (.int .i64 (.bin .add .i64 (.var 2201) (.lit 1)))), (2200, .int .i64 ta), (3199, (.var g))] =
      ([Value.int .i64 ((i : Int) + 1), Value.int .i64 (atN (isF R.sec) (i + 1) : Nat), encG Gx] = [Value.int .i64 (IntKind.i64.wrap (ρ'.i 2201 + 1)), Value.int .i64 (ta.den ρ'), ρ'.g g]) := by kernel_rfl
    rw [e, xi, hv, hg, wrap_in (by omega) (by omega)]
  · show encG Gx = _
    rw [hGx]
  · show (i : Int) + 1 = _
    simp
  · show ((512 : Int) - ((i : Int) + 1)).toNat < ((512 : Int) - ρ'.i 2201).toNat
    rw [xi]
    omega
theorem rcr_holds : rcrC.holds Try.prog (conR rcrR) := by
  refine con_of_runG (cs := r2) (S := r2S) (LT := [(2, ⟨[(4, fun b => .int .i64 (.var b)), (5, fun b => .int .i64 (.var (b + 1)))], [], [], true⟩)]) (depth := 1) (fuel := 10) (nv := 200) (av := [rtC, .hnd 1]) (T := treeRCrash) r2_holds (by kernel_rfl) (by kernel_rfl) (by kernel_rfl) ?_
  rintro G l e0 ⟨y, R, v, keep, rfl, hR, hv, hG⟩
  have hy := hR.at_
  have o1 := hv.sl.one
  obtain ⟨K, hK⟩ : ∃ K : Env → Ex → St → Prop, K = KF [] (.tup []) e0 2 := ⟨_, rfl⟩
  refine ⟨rcrLQ G y R keep, (Env.ofL [.int .i64 y, v]).st (encG G), by show [_, v] = [_, oneOf v]; rw [oneOf_eq o1]; rfl, rfl, ?_⟩
  refine sem_loop (Env.from_ _ 2200 ((Env.ofL [.int .i64 0, .int .i64 0]).ans (encG G))) (Env.from_ag _ _ _) rfl ⟨0, ?_, rfl, rfl, Nat.zero_le _⟩ (by kernel_rfl) (fun ρ1 ρ2 h => ?_) (fun ρ hag hinv => ?_)
  · show encG G = _
    rw [rcrF_zero, set_same hy]
  · show ((512 : Int) - ρ2.i 2201).toNat = ((512 : Int) - ρ1.i 2201).toNat
    rw [(h 2201 (by decide)).1]
  obtain ⟨i, hg, ha, hi, hil⟩ := hinv
  have hi : ρ.i 2201 = i := hi
  have ha : ρ.i 2200 = atN (isF R.sec) i := ha
  have x0 : ρ.i 0 = (y : Nat) := (hag 0 (by decide)).1
  have x1 : ρ.v 1 = v := (hag 1 (by decide)).2.2
  obtain ⟨Rx, hRx⟩ : ∃ x : RefM, x = { R with sec := rcrF keep i R.sec } := ⟨_, rfl⟩
  obtain ⟨Gx, hGx⟩ : ∃ x, x = G.set y (.ptr Rx.cells) := ⟨_, rfl⟩
  rw [← hRx, ← hGx] at hg
  have hg : ρ.g 3199 = encG Gx := hg
  have hyx : Gx[y]? = some (.ptr Rx.cells) := by rw [hGx]; exact set_at hy
  have hsv : Sx.Sl Gx v 1 keep.length (keep.map (Value.int .i64)) := by rw [hGx]; exact hv _ (set_rv hy)
  have hle := atN_le (isF R.sec) i
  refine sem_split (fun h => ?_) (fun h => ?_)
  · have h : ρ.i 2201 < 512 := of_decide_eq_true h
    have hin : i < 512 := by omega
    have hsx : Rx.sec i = R.sec i := by rw [hRx]; exact rcrF_at keep R.sec i
    have get := fun (j : Nat) (hj : j < 4) => Rx.sec_at hin hj
    have hoo := (hR.ho i hin).one
    have hlo := (hR.hl i hin).one
    have place : ∀ {ρ' : Env} {b : Nat} {t : Tree}, ρ'.i 0 = ρ.i 0 → ρ'.i 2201 = ρ.i 2201 → ρ'.g 3199 = ρ.g 3199 → treeSem r2S (rcrLQ G y R keep) (KF [] (.tup []) e0 2) (ρ'.from_ b (Env.ofL [.int .i64 y, .int .i64 (i * 4 : Nat)])) t → treeSem r2S (rcrLQ G y R keep) (KF [] (.tup []) e0 2) ρ' (.call 13 b [(.pla (.var 0) (.lit 0) 0), (.int .i64 (.var 2201)), (.var 3199)] t) := fun e1 e2 e3 ht =>
      sem_sec (y := y) (i := i) hyx ⟨by omega, by omega⟩ rfl (by show [tokAt (Env.i _ 0).toNat 0, Value.int .i64 (Env.i _ 2201), Env.g _ 3199] = _; rw [e1, e2, e3, x0, hi, hg]; rfl) ht
    have put : ∀ {s : SecM}, (R.sec i).is = true → s = rcrS (R.sec i) (fateAt keep (isF R.sec) i) → Gx.set y (.ptr { Rx with sec := upS Rx.sec i s }.cells) = G.set y (.ptr { R with sec := rcrF keep (i + 1) R.sec }.cells) := fun hs e => by
      rw [hGx, List.set_set, hRx]
      show G.set y (.ptr (RefM.mk (upS (rcrF keep i R.sec) i _) _ _ _ _).cells) = _
      rw [e, rcrF_yes hs]
    refine place rfl rfl rfl ?_
    refine sem_getR (k := i * 4 + 3) (Env.ofL [.bool (Rx.sec i).is]) hyx (get 3 (by decide)) rfl rfl (by show [tokAt y (i * 4 + 3), ρ.g 3199] = _; rw [hg]) ?_
    refine sem_split (fun h => ?_) (fun h => ?_)
    · have hs : (R.sec i).is = true := by rw [← hsx]; exact h
      have hs' : isF R.sec i = true := hs
      have hat : atN (isF R.sec) (i + 1) = atN (isF R.sec) i + 1 := by rw [atN_succ, hs']; rfl
      have hcnt : ∀ ρ' : Env, ρ'.i 2200 = ρ.i 2200 → T.den ρ' (.bin .add .i64 (.var 2200) (.lit 1)) = (atN (isF R.sec) (i + 1) : Nat) := fun ρ' e => by
        show IntKind.i64.wrap (ρ'.i 2200 + 1) = _
        rw [e, ha, wrap_in (by omega) (by omega), hat]
        simp
      have fr := fate_rngR keep (isF R.sec) i
      refine sem_step Gx [v] (Env.ofL [.int .i64 keep.length]) rfl (by show [oneOf (ρ.v 1), ρ.g 3199] = _; rw [x1, hg, oneOf_eq o1]; rfl) ⟨v, 1, _, _, rfl, hsv, rfl⟩ ?_
      refine sem_split (fun hc => ?_) (fun hc => ?_)
      · have hc : ρ.i 2200 < (keep.length : Int) := of_decide_eq_true hc
        obtain ⟨m, p, all, q1, q2, q3, q4⟩ := sl_at hsv (by decide) (i := ρ.i 2200) (by omega) hc
        obtain ⟨k, hk⟩ : ∃ k, keep[atN (isF R.sec) i]? = some k := ⟨_, List.getElem?_eq_getElem (by omega)⟩
        refine sem_step Gx [v, .int .i64 (ρ.i 2200)] _ rfl (by show [oneOf (ρ.v 1), Value.int .i64 (ρ.i 2200), ρ.g 3199] = _; rw [x1, hg, oneOf_eq o1]; rfl) q1 ?_
        refine sem_step Gx [tokAt m p] (Env.ofL [.int .i64 k]) rfl (by show [tokAt m (p + 0), ρ.g 3199] = _; rw [hg]; rfl) ⟨m, p, all, .int .i64 k, rfl, q2, ?_, rfl⟩ ?_
        · have := q4 0 (by decide)
          rw [Nat.add_zero, ha, Int.toNat_natCast, Nat.mul_one, Nat.add_zero, List.getElem?_map, hk] at this
          exact this
        obtain ⟨f, hf⟩ : ∃ f, f = fateAt keep (isF R.sec) i := ⟨_, rfl⟩
        refine sem_call pickS (Env.ofL [.int .i64 f]) rfl ⟨k, 3, rfl, by rw [hf]; exact fate_isR hs' hk⟩ ?_
        refine sem_split (fun h => ?_) (fun h => ?_)
        · have h0 : f = 0 := eq_of_beq h
          have e0 : rcrS (R.sec i) (fateAt keep (isF R.sec) i) = ⟨(R.sec i).lv, (R.sec i).lb, (R.sec i).tn, .slice none 0 0, [], false⟩ := by rw [← hf, h0]; rfl
          refine place rfl rfl rfl ?_
          refine sem_getR (k := i * 4 + 0) (Env.ofL [(R.sec i).lv]) hyx (by rw [get 0 (by decide), hsx]; rfl) rfl (oneOf_eq hlo) (by show [tokAt y (i * 4 + 0), ρ.g 3199] = _; rw [hg]) ?_
          refine place rfl rfl rfl ?_
          refine sem_getR (k := i * 4 + 1) (Env.ofL [.bool (R.sec i).tn]) hyx (by rw [get 1 (by decide), hsx]; rfl) rfl rfl (by show [tokAt y (i * 4 + 1), ρ.g 3199] = _; rw [hg]) ?_
          refine place rfl rfl rfl ?_
          refine sem_putS ⟨(R.sec i).lv, (R.sec i).lb, (R.sec i).tn, .slice none 0 0, [], false⟩ hyx hin rfl hlo rfl (by show [tokAt y (i * 4 + 0), Value.agg #[oneOf (R.sec i).lv, .bool (R.sec i).tn, .slice none 0 0, .bool false], ρ.g 3199] = _; rw [hg, oneOf_eq hlo]; rfl) ?_
          exact rcr_again (put hs e0.symm) hin hi rfl (hcnt _ rfl)
        · have h0 : ¬ f = 0 := ne_of_beq_false h
          refine sem_split (fun h => ?_) (fun h => ?_)
          · have h1 : f = 1 := eq_of_beq h
            have e1 : rcrS (R.sec i) (fateAt keep (isF R.sec) i) = ⟨(R.sec i).ov, (R.sec i).ob, false, .slice none 0 0, [], false⟩ := by rw [← hf, h1]; rfl
            refine place rfl rfl rfl ?_
            refine sem_getR (k := i * 4 + 2) (Env.ofL [(R.sec i).ov]) hyx (by rw [get 2 (by decide), hsx]; rfl) rfl (oneOf_eq hoo) (by show [tokAt y (i * 4 + 2), ρ.g 3199] = _; rw [hg]) ?_
            refine place rfl rfl rfl ?_
            refine sem_putS ⟨(R.sec i).ov, (R.sec i).ob, false, .slice none 0 0, [], false⟩ hyx hin rfl hoo rfl (by show [tokAt y (i * 4 + 0), Value.agg #[oneOf (R.sec i).ov, .bool false, .slice none 0 0, .bool false], ρ.g 3199] = _; rw [hg, oneOf_eq hoo]; rfl) ?_
            exact rcr_again (put hs e1.symm) hin hi rfl (hcnt _ rfl)
          · have h1 : ¬ f = 1 := ne_of_beq_false h
            have h2 : f = 2 := by omega
            have e2 : rcrS (R.sec i) (fateAt keep (isF R.sec) i) = ⟨.slice none 0 0, [], true, .slice none 0 0, [], false⟩ := by rw [← hf, h2]; rfl
            refine sem_yes (by show (f == 2) = true; rw [h2]; rfl) ?_
            refine place rfl rfl rfl ?_
            refine sem_putS ⟨.slice none 0 0, [], true, .slice none 0 0, [], false⟩ hyx hin rfl rfl rfl (by show [tokAt y (i * 4 + 0), _, ρ.g 3199] = _; rw [hg]; rfl) ?_
            exact rcr_again (put hs e2.symm) hin hi rfl (hcnt _ rfl)
      · have hc : ¬ ρ.i 2200 < (keep.length : Int) := of_decide_eq_false hc
        have e0 : rcrS (R.sec i) (fateAt keep (isF R.sec) i) = ⟨(R.sec i).lv, (R.sec i).lb, (R.sec i).tn, .slice none 0 0, [], false⟩ := by rw [fate_noR fun _ => by omega]; rfl
        refine place rfl rfl rfl ?_
        refine sem_getR (k := i * 4 + 0) (Env.ofL [(R.sec i).lv]) hyx (by rw [get 0 (by decide), hsx]; rfl) rfl (oneOf_eq hlo) (by show [tokAt y (i * 4 + 0), ρ.g 3199] = _; rw [hg]) ?_
        refine place rfl rfl rfl ?_
        refine sem_getR (k := i * 4 + 1) (Env.ofL [.bool (R.sec i).tn]) hyx (by rw [get 1 (by decide), hsx]; rfl) rfl rfl (by show [tokAt y (i * 4 + 1), ρ.g 3199] = _; rw [hg]) ?_
        refine place rfl rfl rfl ?_
        refine sem_putS ⟨(R.sec i).lv, (R.sec i).lb, (R.sec i).tn, .slice none 0 0, [], false⟩ hyx hin rfl hlo rfl (by show [tokAt y (i * 4 + 0), Value.agg #[oneOf (R.sec i).lv, .bool (R.sec i).tn, .slice none 0 0, .bool false], ρ.g 3199] = _; rw [hg, oneOf_eq hlo]; rfl) ?_
        exact rcr_again (put hs e0.symm) hin hi rfl (hcnt _ rfl)
    · have hs : (R.sec i).is = false := by rw [← hsx]; exact h
      have hs' : isF R.sec i = false := hs
      refine rcr_again (Gx := Gx) (by rw [hGx, hRx, rcrF_no hs]) hin hi hg ?_
      show ρ.i 2200 = _
      rw [ha, atN_succ, hs']
      rfl
  · have h : ¬ ρ.i 2201 < 512 := of_decide_eq_false h
    have hie : i = 512 := by omega
    refine sem_setR (k := 2048) (v := .bool false) hyx (Rx.set_off false) (by decide) rfl rfl rfl (fun cs e => by cases e) (by show [tokAt (ρ.i 0).toNat 2048, Value.bool false, ρ.g 3199] = _; rw [x0, hg]; rfl) ?_
    have h2 := set_at (o' := .ptr { Rx with off := false }.cells) hyx
    refine sem_setR (k := 2049) (v := .bool false) h2 (RefM.set_armed { Rx with off := false } false) (by decide) rfl rfl rfl (fun cs e => by cases e) (by show [tokAt (ρ.i 0).toNat 2049, Value.bool false, _] = _; rw [x0]; rfl) ?_
    refine sem_retG rfl rfl trivial ?_
    rw [hG]
    show encG _ = encG _
    rw [hGx, List.set_set, List.set_set, hRx, hie]
    rfl
end Go.Proofs.Ytcedgoaanlbldaa
