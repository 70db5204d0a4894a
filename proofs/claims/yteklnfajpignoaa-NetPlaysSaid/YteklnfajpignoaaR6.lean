/- What is proved: the contracts of the Deliver and Lose of the document's net; the contract of the Cut of the document's net. No condition but those each law names. -/
import Derived.Test.YteklnfajpignoaaR4
namespace Go.Proofs.Yteklnfajpignoaa
open Sx hiding Sl
set_option maxRecDepth 100000

theorem rowR_off : ∀ {r : List RL} {p : Nat} (hp : p < r.length), (rowR r).set (p * 4 + 3) (.bool false) = rowR (r.set p r[p].off)
  | l :: r, 0, hp => by
    show (l.cells ++ rowR r).set (0 * 4 + 3) _ = l.off.cells ++ rowR r
    rw [List.set_append_left _ _ (by show 0 * 4 + 3 < 4; omega)]
    rfl
  | l :: r, p + 1, hp => by
    have hp' : p < r.length := by simpa using hp
    have ih := rowR_off hp'
    show (l.cells ++ rowR r).set ((p + 1) * 4 + 3) _ = l.cells ++ rowR (r.set p r[p].off)
    rw [List.set_append_right _ _ (by show 4 ≤ _; omega), show (p + 1) * 4 + 3 - l.cells.length = p * 4 + 3 by show _ - 4 = _; omega, ih]
/-- A letter does not wait any more. -/
def offG (G : List Ob) (R : RefM) (k : Int) : List Ob := putV G R.av (.row 4 R.all.length (rowR (R.taken k)))
def offR (R : RefM) (k : Int) : RefM := { R with all := R.taken k }
theorem taken_length (R : RefM) (k : Int) : (R.taken k).length = R.all.length := by unfold RefM.taken; simp
theorem off_get {G : List Ob} {y : Nat} {R : RefM} (h : IsRef G y R) (k : Int) : ∀ (n : Nat) o, G[n]? = some o → (∀ len c, o ≠ .row 4 len c) → (offG G R k)[n]? = some o := fun n o ho hno => by
  unfold offG
  rw [putV_other h.row]
  · exact ho
  · intro e
    rcases h.row with ⟨e', _⟩ | ⟨d, e', hd⟩
    · rw [e'] at e; cases e
    · rw [e'] at e
      have := tok_inj e
      subst this
      rw [ho] at hd
      cases hd
      exact hno _ _ rfl
theorem off_is {G : List Ob} {y : Nat} {R : RefM} (h : IsRef G y R) {k : Int} (hb : R.lookB k = true) : IsRef (offG G R k) y (offR R k) := by
  have nx : ∀ (d : Nat) s len xs, s ≠ 4 → G[d]? = some (.row s len xs) → (offG G R k)[d]? = some (.row s len xs) := fun d s len xs hs hd => off_get h k d _ hd fun _ _ e => hs (by cases e; rfl)
  refine ⟨off_get h k _ _ h.ob fun _ _ e => (by cases e), ?_, fun l hl => ?_, Dst.mono h.cut fun d => nx d _ _ _ (by decide)⟩
  · show Dst (offG G R k) R.av 4 (R.taken k).length (rowR (R.taken k))
    rw [taken_length]
    exact putV_dst h.row (by rw [rowR_length, rowR_length, taken_length])
  · have hl : l ∈ R.taken k := hl
    unfold RefM.taken at hl
    have : ∃ x ∈ R.all, x.v = l.v ∧ x.bs = l.bs := by
      rcases List.mem_or_eq_of_mem_set hl with hl | rfl
      · exact ⟨l, hl, rfl, rfl⟩
      · exact ⟨_, RefM.look_mem hb, rfl, rfl⟩
    obtain ⟨x, hx, e1, e2⟩ := this
    have hbx := h.body x hx
    rw [e1, e2] at hbx
    exact ⟨Dst.mono hbx.1 fun d => nx d _ _ _ (by decide), hbx.2⟩
theorem off_fr {G : List Ob} {y : Nat} {R : RefM} (h : IsRef G y R) (k : Int) : FrR y G (offG G R k) := ⟨by unfold offG; rw [putV_length]; exact Nat.le_refl _, fun n o ho _ h2 _ => off_get h k n o ho h2⟩
theorem sem_off {LQ : LoopS} {K : Env → Ex → St → Prop} {ρ : Env} {b1 b2 b3 b4 : Nat} {vs1 vs2 vs3 vs4 : List E} {t : Tree} {G : List Ob} {y : Nat} {R : RefM} {k : Int} (h : IsRef G y R) (hlen : R.all.length ≤ 1000000) (hb : R.lookB k = true)
    (h1 : E.nams ρ lay0 vs1 = [tokAt y 1, encG G]) (h2 : E.nams (ρ.from_ b1 (Env.ofL [R.av])) lay0 vs2 = [tokAt y 0, .int .i64 k, encG G])
    (h3 : E.nams ((ρ.from_ b1 (Env.ofL [R.av])).from_ b2 ((Env.ofL [.int .i64 (R.place k)]).ans (encG G))) lay0 vs3 = [R.av, .int .i64 (R.place k), encG G])
    (h4 : ∀ d q : Nat, E.nams (((ρ.from_ b1 (Env.ofL [R.av])).from_ b2 ((Env.ofL [.int .i64 (R.place k)]).ans (encG G))).from_ b3 (Env.ofL [.int .i64 d, .int .i64 ((0 + q * 4 : Nat) : Int)])) lay0 vs4 = [tokAt d (q * 4 + 3), .bool false, encG G])
    (h5 : ∀ d q : Nat, treeSem rc2S LQ K ((((ρ.from_ b1 (Env.ofL [R.av])).from_ b2 ((Env.ofL [.int .i64 (R.place k)]).ans (encG G))).from_ b3 (Env.ofL [.int .i64 d, .int .i64 ((0 + q * 4 : Nat) : Int)])).from_ b4 ((Env.ofL []).ans (encG (offG G R k)))) t) :
    treeSem rc2S LQ K ρ (.call 7 b1 vs1 (.call 4 b2 vs2 (.call 15 b3 vs3 (.call 19 b4 vs4 t)))) := by
  have h0 : 0 ≤ R.place k := by
    unfold RefM.lookB at hb
    rw [Bool.and_eq_true, decide_eq_true_eq] at hb
    exact hb.1
  obtain ⟨p, hp, hpk, hlo⟩ := RefM.look_at h0
  have hrow := h.row
  rcases hrow with ⟨_, hl0, _⟩ | ⟨d, hd, hdG⟩
  · omega
  refine h.step_av rfl h1 ?_
  refine sem_step G [tokAt y 0, .int .i64 k] ((Env.ofL [.int .i64 (R.place k)]).ans (encG G)) rfl h2 ⟨y, R, k, rfl, h, hlen, rfl, rfl⟩ ?_
  refine sem_step G [R.av, .int .i64 (R.place k)] (Env.ofL [.int .i64 d, .int .i64 ((0 + p * 4 : Nat) : Int)]) rfl h3
    ⟨_, _, R.place k, d, 0, R.all.length, _, by rw [hd], ⟨d, rfl, .inl ⟨_, .inl hdG, rfl, rfl⟩⟩, cells_row hdG, by rw [rowR_length]; omega, h0, by omega, by decide, rfl, by rw [hpk, Int.toNat_natCast]; rfl⟩ ?_
  have ht : R.taken k = R.all.set p R.all[p].off := by unfold RefM.taken; rw [hpk, hlo, Int.toNat_natCast]
  refine sem_step G [tokAt d (p * 4 + 3), .bool false] ((Env.ofL []).ans (encG (offG G R k))) rfl (h4 d p) ⟨d, p * 4 + 3, _, .row 4 R.all.length (rowR R.all), _, rfl, hdG, rfl, rfl, rfl, fun u hu => ?_, fun cs e => (by cases e), by rw [rowR_length]; omega, ?_⟩ (h5 d p)
  · have : u = .bool false := by simpa [Value.cells] using hu
    subst this
    rfl
  · have e : (Value.bool false).cells.toList = [.bool false] := rfl
    rw [e, overV_set _ _ _ (by rw [rowR_length]; omega), rowR_off hp, ← ht]
    show noTup (encG (offG G R k)) = _
    unfold offG
    rw [hd, putV_tok]
    rfl
/-- Lose. -/
def rlosR1 (R : RefM) (k : Int) : RefM := { offR R k with n3 := inc R.n3 }
def rlosN (R : RefM) (k : Int) : RefM := if R.lookB k then rlosR1 R k else R
def rlosG (G : List Ob) (y : Nat) (R : RefM) (k : Int) : List Ob := if R.lookB k then (offG (rlookG G R k) R k).set y (.ptr (rlosR1 R k).cells) else rlookG G R k
def rlosRr (G : List Ob) (l : List Value) (e : Env) : Prop := ∃ y R k, l = [tokAt y 0, .int .i64 k] ∧ IsRef G y R ∧ R.all.length ≤ 1000000 ∧ e.b 0 = R.lookB k ∧ e.g gv = encG (rlosG G y R k)
def rlosC : Con := mkCon 32 [] (.bool (.var 0)) 2
theorem rlos_is {G : List Ob} {y : Nat} {R : RefM} (k : Int) (h : IsRef G y R) : IsRef (rlosG G y R k) y (rlosN R k) := by
  have h1 := h.keeps (rlook_fr (G := G) (R := R) k).1
  unfold rlosG rlosN
  split
  · rename_i hb
    exact (off_is h1 hb).counts rfl rfl rfl rfl
  · exact h1
theorem rlos_fr {G : List Ob} {y : Nat} {R : RefM} (k : Int) (h : IsRef G y R) : FrR y G (rlosG G y R k) := by
  have hk := rlook_fr (G := G) (R := R) k
  have h1 := h.keeps hk.1
  unfold rlosG
  split
  · exact ((FrR.keeps hk.1 hk.2).trans (off_fr h1 k)).trans (FrR.set _)
  · exact FrR.keeps hk.1 hk.2
def treeRlos : Tree :=
 (.call 0 3200 [(.pla (.var 0) (.lit 0) 0), (.int .i64 (.var 1)), (.var 199)]
 (.split (.var 3204)
 (.call 7 14200 [(.pla (.var 0) (.lit 0) 1), (.var 4199)]
 (.call 4 17200 [(.pla (.var 0) (.lit 0) 0), (.int .i64 (.var 1)), (.var 4199)]
 (.call 15 18200 [(.hnd 14200), (.int .i64 (.var 17200)), (.var 18199)]
 (.call 19 20200 [(.pla (.var 18200) (.var 18201) 3), (.bool (.lit false)), (.var 18199)]
 (.call 6 26200 [(.pla (.var 0) (.lit 0) 6), (.var 21199)]
 (.call 18 31200 [(.pla (.var 0) (.lit 0) 6), (.int .i64 (.bin .add .i64 (.var 26200) (.lit 1))), (.var 21199)]
 (leafG (.bool (.var 3204)) .nil 32199)))))))
 (leafG (.bool (.var 3204)) .nil 4199)))
theorem rlos_holds : rlosC.holds Try.prog (conR rlosRr) := by
  refine con_of_runG (cs := rc2) (S := rc2S) (LT := []) (depth := 0) (fuel := 10) (nv := 200) (av := [ref, .int .i64 (.var 1)]) (T := treeRlos) rc2_holds (by kernel_rfl) (by kernel_rfl) (by kernel_rfl) ?_
  rintro G l e0 ⟨y, R, k, rfl, hR, hlen, he, hG⟩
  refine ⟨noLoops, (Env.ofL [.int .i64 y, .int .i64 k]).st (encG G), rfl, rfl, ?_⟩
  have hR1 := hR.keeps (rlook_fr (G := G) (R := R) k).1
  have o1 := hR.row.one
  obtain ⟨ll, hll⟩ : ∃ l, l = rlookL G R k := ⟨_, rfl⟩
  refine sem_step G [tokAt y 0, .int .i64 k] ((Env.ofL (ll.cells ++ [.bool (R.lookB k)])).ans (encG (rlookG G R k))) rfl rfl ⟨y, R, k, rfl, hR, hlen, by rw [← hll]; rfl, by rw [← hll]; rfl, by rw [← hll]; rfl, by rw [← hll]; rfl, rfl, rfl⟩ ?_
  unfold rlosG at hG
  refine sem_split (fun h => ?_) (fun h => ?_)
  · have hb : R.lookB k = true := h
    rw [if_pos hb] at hG
    refine sem_off hR1 hlen hb rfl rfl (by show [oneOf R.av, _, _] = _; rw [oneOf_eq o1]; rfl) (fun d q => by show [tokAt ((d : Int)).toNat ((0 + q * 4) + 3), _, _] = _; rw [Nat.zero_add]; rfl) fun d q => ?_
    refine sem_rinc (j := 6) (c := R.n3) (R' := rlosR1 R k) (off_is hR1 hb) rfl rfl rfl rfl rfl rfl ?_
    exact sem_retG rfl (by show Value.bool (R.lookB k) = Value.bool (e0.b 0); rw [he]) trivial (by rw [hG]; rfl)
  · have hb : R.lookB k = false := h
    rw [if_neg (by rw [hb]; simp)] at hG
    exact sem_retG rfl (by show Value.bool (R.lookB k) = Value.bool (e0.b 0); rw [he]) trivial (by rw [hG]; rfl)
/-- Deliver. -/
def rdlvR1 (R : RefM) (k : Int) : RefM := { offR R k with n2 := inc R.n2 }
def rdlvN (R : RefM) (k : Int) : RefM := if R.dlvOk k then rdlvR1 R k else R
def rdlvL (G : List Ob) (R : RefM) (k : Int) : RL := if R.dlvOk k then rlookL G R k else ⟨0, 0, .slice none 0 0, [], false⟩
def rdlvG (G : List Ob) (y : Nat) (R : RefM) (k : Int) : List Ob := if R.dlvOk k then (offG (rlookG G R k) R k).set y (.ptr (rdlvR1 R k).cells) else rlookG G R k
def rdlvRr (G : List Ob) (l : List Value) (e : Env) : Prop := ∃ y R k, l = [tokAt y 0, .int .i64 k] ∧ IsRef G y R ∧ R.all.length ≤ 1000000 ∧ R.cuts.length ≤ 1000000 ∧ e.i 0 = (rdlvL G R k).f ∧ e.i 1 = (rdlvL G R k).t ∧ e.v 2 = (rdlvL G R k).v ∧ e.b 3 = (rdlvL G R k).w ∧ e.b 4 = R.dlvOk k ∧ e.g gv = encG (rdlvG G y R k)
def rdlvC : Con := mkCon 30 [] (.tup [.agg (rE 0), .bool (.var 4)]) 2
theorem rdlv_is {G : List Ob} {y : Nat} {R : RefM} (k : Int) (h : IsRef G y R) : IsRef (rdlvG G y R k) y (rdlvN R k) := by
  have h1 := h.keeps (rlook_fr (G := G) (R := R) k).1
  unfold rdlvG rdlvN
  split
  · rename_i hb
    exact (off_is h1 (RefM.dlv_look hb)).counts rfl rfl rfl rfl
  · exact h1
theorem rdlv_fr {G : List Ob} {y : Nat} {R : RefM} (k : Int) (h : IsRef G y R) : FrR y G (rdlvG G y R k) := by
  have hk := rlook_fr (G := G) (R := R) k
  have h1 := h.keeps hk.1
  unfold rdlvG
  split
  · exact ((FrR.keeps hk.1 hk.2).trans (off_fr h1 k)).trans (FrR.set _)
  · exact FrR.keeps hk.1 hk.2
def treeRdlv : Tree :=
 (.call 0 4200 [(.pla (.var 0) (.lit 0) 0), (.int .i64 (.var 1)), (.var 199)]
 (.split (.var 4204)
 (.call 5 19200 [(.pla (.var 0) (.lit 0) 0), (.int .i64 (.var 4200)), (.int .i64 (.var 4201)), (.var 5199)]
 (.split (.var 19200)
 (leafG (.tup ([(.agg ([(.int .i64 (.lit 0)), (.int .i64 (.lit 0)), (.lit (.slice none 0 0)), (.bool (.lit false))])), (.bool (.lit false))])) .nil 20199)
 (.call 7 24200 [(.pla (.var 0) (.lit 0) 1), (.var 20199)]
 (.call 4 27200 [(.pla (.var 0) (.lit 0) 0), (.int .i64 (.var 1)), (.var 20199)]
 (.call 15 28200 [(.hnd 24200), (.int .i64 (.var 27200)), (.var 28199)]
 (.call 19 30200 [(.pla (.var 28200) (.var 28201) 3), (.bool (.lit false)), (.var 28199)]
 (.call 6 36200 [(.pla (.var 0) (.lit 0) 5), (.var 31199)]
 (.call 18 41200 [(.pla (.var 0) (.lit 0) 5), (.int .i64 (.bin .add .i64 (.var 36200) (.lit 1))), (.var 31199)]
 (leafG (.tup ([(.agg ([(.int .i64 (.var 4200)), (.int .i64 (.var 4201)), (.hnd 4202), (.bool (.var 4203))])), (.bool (.lit true))])) .nil 42199)))))))))
 (leafG (.tup ([(.agg ([(.int .i64 (.lit 0)), (.int .i64 (.lit 0)), (.lit (.slice none 0 0)), (.bool (.lit false))])), (.bool (.lit false))])) .nil 5199)))
theorem rdlv_holds : rdlvC.holds Try.prog (conR rdlvRr) := by
  refine con_of_runG (cs := rc2) (S := rc2S) (LT := []) (depth := 0) (fuel := 10) (nv := 200) (av := [ref, .int .i64 (.var 1)]) (T := treeRdlv) rc2_holds (by kernel_rfl) (by kernel_rfl) (by kernel_rfl) ?_
  rintro G l e0 ⟨y, R, k, rfl, hR, hlen, hcl, q0, q1, q2, q3, he, hG⟩
  refine ⟨noLoops, (Env.ofL [.int .i64 y, .int .i64 k]).st (encG G), rfl, rfl, ?_⟩
  have hR1 := hR.keeps (rlook_fr (G := G) (R := R) k).1
  have o1 := hR.row.one
  have no : R.dlvOk k = false → ∀ (ρ : Env) (h : Tr (List E)) (g : Nat), ρ.g g = encG (rlookG G R k) → treeSem rc2S noLoops (KF [] (.tup [.agg (rE 0), .bool (.var 4)]) e0 2) ρ (leafG (.tup [.agg [.int .i64 (.lit 0), .int .i64 (.lit 0), .lit (.slice none 0 0), .bool (.lit false)], .bool (.lit false)]) h g) := fun hb ρ h g hg => by
    unfold rdlvL at q0 q1 q2 q3
    unfold rdlvG at hG
    rw [if_neg (by rw [hb]; simp)] at q0 q1 q2 q3 hG
    refine sem_retG rfl ?_ trivial (by rw [hG, hg])
    show _ = Value.tuple #[.agg #[.int .i64 (e0.i 0), .int .i64 (e0.i 1), oneOf (e0.v 2), .bool (e0.b 3)], .bool (e0.b 4)]
    rw [q0, q1, q2, q3, he, hb]
    rfl
  obtain ⟨ll, hll⟩ : ∃ l, l = rlookL G R k := ⟨_, rfl⟩
  refine sem_step G [tokAt y 0, .int .i64 k] ((Env.ofL (ll.cells ++ [.bool (R.lookB k)])).ans (encG (rlookG G R k))) rfl rfl ⟨y, R, k, rfl, hR, hlen, by rw [← hll]; rfl, by rw [← hll]; rfl, by rw [← hll]; rfl, by rw [← hll]; rfl, rfl, rfl⟩ ?_
  refine sem_split (fun h => ?_) (fun h => ?_)
  · have hb : R.lookB k = true := h
    have hft : ll.f = (R.lookO k).f ∧ ll.t = (R.lookO k).t := by rw [hll]; unfold rlookL; rw [if_pos hb]; exact ⟨rfl, rfl⟩
    refine sem_step (rlookG G R k) [tokAt y 0, .int .i64 ll.f, .int .i64 ll.t] ((Env.ofL [.bool (R.isCut ll.f ll.t)]).ans (encG (rlookG G R k))) rfl rfl ⟨y, R, ll.f, ll.t, rfl, hR1, hcl, rfl, rfl⟩ ?_
    refine sem_split (fun h => ?_) (fun h => ?_)
    · have hc : R.isCut ll.f ll.t = true := h
      exact no (by unfold RefM.dlvOk; rw [hb, ← hft.1, ← hft.2, hc]; rfl) _ _ _ rfl
    · have hc : R.isCut ll.f ll.t = false := h
      have hok : R.dlvOk k = true := by unfold RefM.dlvOk; rw [hb, ← hft.1, ← hft.2, hc]; rfl
      unfold rdlvL at q0 q1 q2 q3
      unfold rdlvG at hG
      rw [if_pos hok] at q0 q1 q2 q3 hG
      rw [← hll] at q0 q1 q2 q3
      refine sem_off hR1 hlen hb rfl rfl (by show [oneOf R.av, _, _] = _; rw [oneOf_eq o1]; rfl) (fun d q => by show [tokAt ((d : Int)).toNat ((0 + q * 4) + 3), _, _] = _; rw [Nat.zero_add]; rfl) fun d q => ?_
      refine sem_rinc (j := 5) (c := R.n2) (R' := rdlvR1 R k) (off_is hR1 hb) rfl rfl rfl rfl rfl rfl ?_
      refine sem_retG rfl ?_ trivial (by rw [hG]; rfl)
      show Value.tuple #[.agg #[.int .i64 ll.f, .int .i64 ll.t, oneOf ll.v, .bool ll.w], .bool true] = Value.tuple #[.agg #[.int .i64 (e0.i 0), .int .i64 (e0.i 1), oneOf (e0.v 2), .bool (e0.b 3)], .bool (e0.b 4)]
      rw [q0, q1, q2, q3, he, hok]
  · have hb : R.lookB k = false := h
    exact no (by unfold RefM.dlvOk; rw [hb]; rfl) _ _ _ rfl
end Go.Proofs.Yteklnfajpignoaa

namespace Go.Proofs.Yteklnfajpignoaa
open Sx hiding Sl
set_option maxRecDepth 100000

/-- A way is put behind a list of ways. -/
def cwL (c : Int × Int) : List Value := [.int .i64 c.1, .int .i64 c.2]
def clitG (G : List Ob) (c : Int × Int) : List Ob := G ++ [.row 2 1 (cwL c)]
def cappG (G : List Ob) (v : Value) (acc : List (Int × Int)) (c : Int × Int) : List Ob := killV (clitG G c) v ++ [.row 2 (acc.length + 1) (cutW acc ++ cwL c)]
theorem capp_len (G : List Ob) (v : Value) (acc : List (Int × Int)) (c : Int × Int) : (cappG G v acc c).length = G.length + 2 := by unfold cappG; rw [List.length_append, killV_length]; simp [clitG]
theorem capp_new {G : List Ob} {v : Value} {acc : List (Int × Int)} {c : Int × Int} : Dst (cappG G v acc c) (tok (G.length + 1)) 2 (acc ++ [c]).length (cutW (acc ++ [c])) := by
  refine .inr ⟨_, rfl, ?_⟩
  have hl : (killV (clitG G c) v).length = G.length + 1 := by rw [killV_length]; simp [clitG]
  unfold cappG
  rw [List.getElem?_append_right (by omega), hl, Nat.sub_self, cutW_snoc, List.length_append]
  rfl
theorem capp_keep {G : List Ob} {v : Value} {acc : List (Int × Int)} {c : Int × Int} (hd : Dst G v 2 acc.length (cutW acc)) (n : Nat) (o : Ob) (ho : G[n]? = some o) (hno : v ≠ tok n) : (cappG G v acc c)[n]? = some o := by
  have hn := (List.getElem?_eq_some_iff.1 ho).1
  have h2 : (clitG G c)[n]? = some o := by unfold clitG; rw [List.getElem?_append_left hn]; exact ho
  have hl : (clitG G c).length = G.length + 1 := by simp [clitG]
  unfold cappG
  rw [List.getElem?_append_left (by rw [killV_length]; omega)]
  rcases hd with ⟨e, _⟩ | ⟨d, e, hd⟩
  · rw [e]
    exact h2
  · rw [e, killV_tok, List.getElem?_set_ne]
    · exact h2
    · rintro rfl
      exact hno e
theorem sem_capp {LQ : LoopS} {K : Env → Ex → St → Prop} {ρ : Env} {b1 b2 : Nat} {vs1 vs2 : List E} {t : Tree} {G : List Ob} {v : Value} {acc : List (Int × Int)} {c : Int × Int} (hd : Dst G v 2 acc.length (cutW acc)) (hlen : acc.length ≤ 1000000)
    (h1 : E.nams ρ lay0 vs1 = [.agg (cwL c).toArray, encG G]) (h2 : E.nams (ρ.from_ b1 ((Env.ofL [tok G.length]).ans (encG (clitG G c)))) lay0 vs2 = [v, tok G.length, encG (clitG G c)])
    (h4 : treeSem rc2S LQ K ((ρ.from_ b1 ((Env.ofL [tok G.length]).ans (encG (clitG G c)))).from_ b2 ((Env.ofL [tok (G.length + 1)]).ans (encG (cappG G v acc c)))) t) :
    treeSem rc2S LQ K ρ (.call 26 b1 vs1 (.call 25 b2 vs2 t)) := by
  refine sem_step G [.agg (cwL c).toArray] ((Env.ofL [tok G.length]).ans (encG (clitG G c))) rfl h1 ⟨false, cwL c, rfl, by simp [Value.cells], fun u hu => ?_, rfl, rfl⟩ ?_
  · have : u = .agg (cwL c).toArray := by simpa using hu
    subst this
    refine ⟨rfl, fun x hx => ?_, fun cs e => (by cases e)⟩
    have hx : x ∈ cwL c := by simpa [Value.cells] using hx
    simp only [cwL, List.mem_cons, List.not_mem_nil, or_false] at hx
    rcases hx with rfl | rfl <;> rfl
  have hlit : (clitG G c)[G.length]? = some (.row 2 1 (cwL c)) := by unfold clitG; rw [List.getElem?_append_right (Nat.le_refl _), Nat.sub_self]; rfl
  refine sem_step (clitG G c) [v, tok G.length] ((Env.ofL [tok (G.length + 1)]).ans (encG (cappG G v acc c))) rfl h2
    ⟨v, tok G.length, acc.length, 1, cutW acc, cwL c, rfl, dst_sl (.inr ⟨_, rfl, hlit⟩) rfl, by omega, by omega, .inr ⟨Nat.one_pos, Dst.append hd, ?_, false, rfl⟩⟩ h4
  show tok (G.length + 1) = tok (clitG G c).length
  rw [show (clitG G c).length = G.length + 1 by simp [clitG]]
/-- The ways but one. -/
def rcS (w : Int × Int) : List Ob → Value → List (Int × Int) → List (Int × Int) → List Ob × Value
  | G, v, _, [] => (G, v)
  | G, v, acc, c :: r => if c = w then rcS w G v acc r else rcS w (cappG G v acc c) (tok (G.length + 1)) (acc ++ [c]) r
structure RcAt (G Gj : List Ob) (v : Value) (acc : List (Int × Int)) : Prop where
  dst : Dst Gj v 2 acc.length (cutW acc)
  keep : Keeps G Gj
  new : ∀ d, v = tok d → G.length ≤ d
  len : G.length ≤ Gj.length
theorem RcAt.start (G : List Ob) : RcAt G G (.slice none 0 0) [] := ⟨.inl ⟨rfl, rfl, rfl⟩, fun _ _ h => h, fun d h => (by cases h), Nat.le_refl _⟩
theorem RcAt.next {G Gj : List Ob} {v : Value} {acc : List (Int × Int)} (h : RcAt G Gj v acc) (c : Int × Int) : RcAt G (cappG Gj v acc c) (tok (Gj.length + 1)) (acc ++ [c]) := by
  have hl := h.len
  refine ⟨capp_new, fun n o ho => ?_, fun d hd => ?_, ?_⟩
  · refine capp_keep h.dst n o (h.keep n o ho) fun e => ?_
    have := h.new n e
    have := (List.getElem?_eq_some_iff.1 ho).1
    omega
  · have := tok_inj hd
    omega
  · rw [capp_len]
    omega
def outW (w : Int × Int) (r : List (Int × Int)) : List (Int × Int) := r.filter fun p => !decide (p = w)
theorem outW_cons (w c : Int × Int) (r : List (Int × Int)) : outW w (c :: r) = if c = w then outW w r else c :: outW w r := by
  unfold outW
  rw [List.filter_cons]
  by_cases h : c = w <;> simp [h]
theorem rcS_at {G : List Ob} (w : Int × Int) (r : List (Int × Int)) : ∀ {Gj : List Ob} {v : Value} {acc : List (Int × Int)}, RcAt G Gj v acc → RcAt G (rcS w Gj v acc r).1 (rcS w Gj v acc r).2 (acc ++ outW w r) := by
  induction r with
  | nil => intro Gj v acc h; show RcAt G Gj v (acc ++ []); rw [List.append_nil]; exact h
  | cons c r ih =>
    intro Gj v acc h
    rw [outW_cons]
    unfold rcS
    split
    · exact ih h
    · have := ih (h.next c)
      rw [List.append_assoc] at this
      exact this
/-- Cut. -/
def rcutG1 (G : List Ob) (R : RefM) (w : Int × Int) : List Ob := (rcS w G (.slice none 0 0) [] R.cuts).1
def rcutV1 (G : List Ob) (R : RefM) (w : Int × Int) : Value := (rcS w G (.slice none 0 0) [] R.cuts).2
def rcutR1 (G : List Ob) (R : RefM) (w : Int × Int) : RefM := { R with cuts := outW w R.cuts, cv := rcutV1 G R w }
def rcutG2 (G : List Ob) (y : Nat) (R : RefM) (w : Int × Int) : List Ob := (rcutG1 G R w).set y (.ptr (rcutR1 G R w).cells)
def rcutR3 (G : List Ob) (y : Nat) (R : RefM) (w : Int × Int) : RefM := { R with cuts := outW w R.cuts ++ [w], cv := tok ((rcutG2 G y R w).length + 1) }
def rcutG3 (G : List Ob) (y : Nat) (R : RefM) (w : Int × Int) : List Ob := cappG (rcutG2 G y R w) (rcutV1 G R w) (outW w R.cuts) w
def rcutG4 (G : List Ob) (y : Nat) (R : RefM) (w : Int × Int) : List Ob := (rcutG3 G y R w).set y (.ptr (rcutR3 G y R w).cells)
def rcutN (G : List Ob) (y : Nat) (R : RefM) (a b : Int) (c : Bool) : RefM := if wayB R.nodes a b then (if c then rcutR3 G y R (way a b) else rcutR1 G R (way a b)) else R
def rcutG (G : List Ob) (y : Nat) (R : RefM) (a b : Int) (c : Bool) : List Ob := if wayB R.nodes a b then (if c then rcutG4 G y R (way a b) else rcutG2 G y R (way a b)) else G
theorem rcut_at (G : List Ob) (R : RefM) (w : Int × Int) : RcAt G (rcutG1 G R w) (rcutV1 G R w) (outW w R.cuts) := rcS_at w R.cuts (RcAt.start G)
/-- A list of ways is stored. -/
theorem IsRef.recut {G G' : List Ob} {y : Nat} {R : RefM} (h : IsRef G y R) (hk : ∀ (n : Nat) o, G[n]? = some o → (∀ len c, o ≠ .row 2 len c) → G'[n]? = some o) (hl : G.length ≤ G'.length) {v : Value} {r : List (Int × Int)} (hd : Dst G' v 2 r.length (cutW r)) :
    IsRef (G'.set y (.ptr { R with cuts := r, cv := v }.cells)) y { R with cuts := r, cv := v } := by
  have hyl := (List.getElem?_eq_some_iff.1 h.ob).1
  have hy := hk _ _ h.ob fun _ _ e => by cases e
  have nx : ∀ (d : Nat) s len xs, G'[d]? = some (.row s len xs) → (G'.set y (.ptr { R with cuts := r, cv := v }.cells))[d]? = some (.row s len xs) := fun d s len xs hd => by
    rw [List.getElem?_set_ne]
    · exact hd
    · rintro rfl
      rw [hy] at hd
      cases hd
  refine ⟨List.getElem?_set_self (by omega), Dst.mono h.row fun d hd => nx d _ _ _ (hk d _ hd fun _ _ e => (by cases e)), fun l hl => ⟨Dst.mono (h.body l hl).1 fun d hd => nx d _ _ _ (hk d _ hd fun _ _ e => (by cases e)), (h.body l hl).2⟩, Dst.mono hd fun d => nx d _ _ _⟩
theorem rcut1_is {G : List Ob} {y : Nat} {R : RefM} (h : IsRef G y R) (w : Int × Int) : IsRef (rcutG2 G y R w) y (rcutR1 G R w) := h.recut (fun n o ho _ => (rcut_at G R w).keep n o ho) (rcut_at G R w).len (rcut_at G R w).dst
theorem rcut1_fr {G : List Ob} {y : Nat} {R : RefM} (w : Int × Int) : FrR y G (rcutG2 G y R w) := (FrR.keeps (rcut_at G R w).keep (rcut_at G R w).len).trans (FrR.set _)
theorem capp_not2 {G : List Ob} {v : Value} {acc : List (Int × Int)} {c : Int × Int} (hd : Dst G v 2 acc.length (cutW acc)) (n : Nat) (o : Ob) (ho : G[n]? = some o) (hno : ∀ len c, o ≠ .row 2 len c) : (cappG G v acc c)[n]? = some o := by
  refine capp_keep hd n o ho fun e => ?_
  have := (dst_lt hd e).2
  rw [ho] at this
  cases this
  exact hno _ _ rfl
theorem rcut2_is {G : List Ob} {y : Nat} {R : RefM} (h : IsRef G y R) (w : Int × Int) : IsRef (rcutG4 G y R w) y (rcutR3 G y R w) := by
  have h1 := rcut1_is h w
  exact h1.recut (capp_not2 h1.cut) (by rw [capp_len]; omega) capp_new
theorem rcut2_fr {G : List Ob} {y : Nat} {R : RefM} (h : IsRef G y R) (w : Int × Int) : FrR y G (rcutG4 G y R w) := by
  have h1 := rcut1_is h w
  refine (rcut1_fr (R := R) w).trans (FrR.trans ⟨by unfold rcutG3; rw [capp_len]; omega, fun n o ho _ _ h2 => ?_⟩ (FrR.set _))
  exact capp_not2 h1.cut n o ho h2
theorem rcut_is {G : List Ob} {y : Nat} {R : RefM} (a b : Int) (c : Bool) (h : IsRef G y R) : IsRef (rcutG G y R a b c) y (rcutN G y R a b c) := by
  unfold rcutG rcutN
  split
  · split
    · exact rcut2_is h _
    · exact rcut1_is h _
  · exact h
theorem rcut_fr {G : List Ob} {y : Nat} {R : RefM} (a b : Int) (c : Bool) (h : IsRef G y R) : FrR y G (rcutG G y R a b c) := by
  unfold rcutG
  split
  · split
    · exact rcut2_fr h _
    · exact rcut1_fr _
  · exact FrR.refl
def rcutRr (G : List Ob) (l : List Value) (e : Env) : Prop := ∃ y R a b c, l = [tokAt y 0, .int .i64 a, .int .i64 b, .bool c] ∧ IsRef G y R ∧ R.cuts.length ≤ 1000000 ∧ e.b 0 = wayB R.nodes a b ∧ e.g gv = encG (rcutG G y R a b c)
def rcutC : Con := mkCon 33 [] (.bool (.var 0)) 2
theorem outW_le (w : Int × Int) (r : List (Int × Int)) : (outW w r).length ≤ r.length := List.length_filter_le _ _
def rcInv (G : List Ob) (R : RefM) (w : Int × Int) (nv : Nat) (ρ : Env) : Prop := ∃ Gj acc r, ∃ k : Nat, ρ.g (nv + 999) = encG Gj ∧ ρ.i (nv + 1) = k ∧ R.cuts.drop k = r ∧ k ≤ R.cuts.length ∧ acc.length ≤ k ∧ RcAt G Gj (ρ.v nv) acc ∧ rcS w Gj (ρ.v nv) acc r = (rcutG1 G R w, rcutV1 G R w) ∧ acc ++ outW w r = outW w R.cuts
def rcLQ (G : List Ob) (R : RefM) (w : Int × Int) : LoopS := ⟨fun _ nv ρ => rcInv G R w nv ρ, fun _ nv ρ => (R.cuts.length - ρ.i (nv + 1)).toNat⟩
theorem sem_stcv {LQ : LoopS} {K : Env → Ex → St → Prop} {ρ : Env} {b : Nat} {vs : List E} {t : Tree} {G : List Ob} {y : Nat} {c1 : List Value} {v : Value} (hy : G[y]? = some (.ptr c1)) (hl : c1.length = 7) (hv : v.cells.toList = [v]) (h1 : v.oneCell' = true) (hvt : ∀ cs, v ≠ .tuple cs)
    (h2 : E.nams ρ lay0 vs = [tokAt y 2, v, encG G]) (h4 : treeSem rc2S LQ K (ρ.from_ b ((Env.ofL []).ans (encG (G.set y (.ptr (c1.set 2 v)))))) t) : treeSem rc2S LQ K ρ (.call 22 b vs t) := by
  refine sem_step G [tokAt y 2, v] ((Env.ofL []).ans (encG (G.set y (.ptr (c1.set 2 v))))) rfl h2 ⟨y, 2, v, .ptr c1, c1, rfl, hy, rfl, rfl, ?_, fun u hu => ?_, hvt, by omega, ?_⟩ h4
  · have : v.cells.toList.length = 1 := by rw [hv]; rfl
    simpa using this
  · rw [hv, List.mem_singleton] at hu
    subst hu
    exact h1
  · rw [hv, overV_set _ _ _ (by omega)]
    rfl
theorem slv_one {G : List Ob} {v : Value} {s len : Nat} {xs : List Value} (h : Dst G v s len xs) : v.cells.toList = [v] ∧ ∀ cs, v ≠ .tuple cs := by
  rcases h with ⟨rfl, _⟩ | ⟨d, rfl, _⟩
  · exact ⟨rfl, fun cs e => (by cases e)⟩
  · exact ⟨rfl, fun cs e => (by cases e)⟩
def treeRcut : Tree :=
 (.call 1 4200 [(.pla (.var 0) (.lit 0) 0), (.int .i64 (.var 1)), (.int .i64 (.var 2)), (.var 199)]
 (.split (.var 4200)
 (.loop 5 8200 [(8200, (.lit (.slice none 0 0))), (8201, (.int .i64 (.lit 0))), (9199, (.var 5199))]
 (.call 8 13200 [(.pla (.var 0) (.lit 0) 2), (.var 9199)]
 (.call 13 14200 [(.hnd 13200), (.var 9199)]
 (.split (.cmp .lss (.var 8201) (.var 14200))
 (.call 8 19200 [(.pla (.var 0) (.lit 0) 2), (.var 9199)]
 (.call 16 21200 [(.hnd 19200), (.int .i64 (.var 8201)), (.var 9199)]
 (.call 11 22200 [(.pla (.var 21200) (.var 21201) 0), (.var 9199)]
 (.call 30 25200 [(.int .i64 (.var 1)), (.int .i64 (.var 2))]
 (.call 29 26200 [(.agg ([(.int .i64 (.var 22200)), (.int .i64 (.var 22201))])), (.agg ([(.int .i64 (.var 25200)), (.int .i64 (.var 25201))])), (.var 9199)]
 (.split (.var 26200)
 (.call 8 31200 [(.pla (.var 0) (.lit 0) 2), (.var 9199)]
 (.call 16 33200 [(.hnd 31200), (.int .i64 (.var 8201)), (.var 9199)]
 (.call 11 34200 [(.pla (.var 33200) (.var 33201) 0), (.var 9199)]
 (.call 26 35200 [(.agg ([(.int .i64 (.var 34200)), (.int .i64 (.var 34201))])), (.var 9199)]
 (.call 25 36200 [(.hnd 8200), (.hnd 35200), (.var 36199)]
 (.again 5 8200 [(8200, (.hnd 36200)), (8201, (.int .i64 (.bin .add .i64 (.var 8201) (.lit 1)))), (9199, (.var 37199))]))))))
 (.again 5 8200 [(8200, (.hnd 8200)), (8201, (.int .i64 (.bin .add .i64 (.var 8201) (.lit 1)))), (9199, (.var 9199))])))))))
 (.call 22 20200 [(.pla (.var 0) (.lit 0) 2), (.hnd 8200), (.var 9199)]
 (.split (.var 3)
 (.call 8 26200 [(.pla (.var 0) (.lit 0) 2), (.var 21199)]
 (.call 30 29200 [(.int .i64 (.var 1)), (.int .i64 (.var 2))]
 (.call 26 30200 [(.agg ([(.int .i64 (.var 29200)), (.int .i64 (.var 29201))])), (.var 21199)]
 (.call 25 31200 [(.hnd 26200), (.hnd 30200), (.var 31199)]
 (.call 22 34200 [(.pla (.var 0) (.lit 0) 2), (.hnd 31200), (.var 32199)]
 (leafG (.bool (.lit true)) .nil 35199))))))
 (leafG (.bool (.lit true)) .nil 21199)))))))
 (leafG (.bool (.lit false)) .nil 5199)))
theorem rcut_holds : rcutC.holds Try.prog (conR rcutRr) := by
  refine con_of_runG (cs := rc2) (S := rc2S) (LT := [(5, ⟨[(9, fun b => .hnd b), (10, fun b => .int .i64 (.var (b + 1)))], [], [], true⟩)]) (depth := 0) (fuel := 10) (nv := 200) (av := [ref, .int .i64 (.var 1), .int .i64 (.var 2), .bool (.var 3)]) (T := treeRcut) rc2_holds (by kernel_rfl) (by kernel_rfl) (by kernel_rfl) ?_
  rintro G l e0 ⟨y, R, a, b, c, rfl, hR, hlen, he, hG⟩
  refine ⟨rcLQ G R (way a b), (Env.ofL [.int .i64 y, .int .i64 a, .int .i64 b, .bool c]).st (encG G), rfl, rfl, ?_⟩
  refine sem_step G [tokAt y 0, .int .i64 a, .int .i64 b] ((Env.ofL [.bool (wayB R.nodes a b)]).ans (encG G)) rfl rfl ⟨y, R, a, b, rfl, hR, rfl, rfl⟩ ?_
  unfold rcutG at hG
  refine sem_split (fun h => ?_) (fun h => ?_)
  rotate_left
  · have h : wayB R.nodes a b = false := h
    rw [if_neg (by rw [h]; simp)] at hG
    exact sem_retG rfl (by show Value.bool false = Value.bool (e0.b 0); rw [he, h]) trivial (by rw [hG]; rfl)
  have hw : wayB R.nodes a b = true := h
  rw [if_pos hw] at hG
  obtain ⟨w, hwe⟩ : ∃ w, w = way a b := ⟨_, rfl⟩
  rw [← hwe] at hG ⊢
  refine sem_loop (Env.from_ _ 8200 ((Env.ofL [.slice none 0 0, .int .i64 0]).ans (encG G))) (Env.from_ag _ _ _) rfl ⟨G, [], R.cuts, 0, rfl, rfl, rfl, Nat.zero_le _, Nat.le_refl _, RcAt.start G, rfl, rfl⟩ (by kernel_rfl) (fun ρ1 ρ2 h => ?_) (fun ρ hag hinv => ?_)
  · show ((R.cuts.length : Int) - ρ2.i 8201).toNat = ((R.cuts.length : Int) - ρ1.i 8201).toNat
    rw [(h 8201 (by decide)).1]
  obtain ⟨Gj, acc, r, k, hg, hi, hr, hk, hak, hat, hcp, hou⟩ := hinv
  have hg : ρ.g 9199 = encG Gj := hg
  have hi : ρ.i 8201 = k := hi
  have hat : RcAt G Gj (ρ.v 8200) acc := hat
  have hcp : rcS w Gj (ρ.v 8200) acc r = (rcutG1 G R w, rcutV1 G R w) := hcp
  have xy : ρ.i 0 = y := (hag 0 (by decide)).1
  have xa : ρ.i 1 = a := (hag 1 (by decide)).1
  have xb : ρ.i 2 = b := (hag 2 (by decide)).1
  have xc : ρ.b 3 = c := (hag 3 (by decide)).2.1
  have hRj := hR.keeps hat.keep
  have o1 := hR.cut.one
  have o2 := hat.dst.one
  have ny : ∀ (ρ' : Env) (k' g : Nat) (Gx : List Ob), ρ'.i 0 = ρ.i 0 → ρ'.g g = encG Gx → E.nams ρ' lay0 [.pla (.var 0) (.lit 0) k', .var g] = [tokAt y k', encG Gx] := fun ρ' k' g Gx e1 e2 => by
    show [tokAt (ρ'.i 0).toNat ((0 : Int).toNat + k'), ρ'.g g] = _
    rw [e1, e2, xy]
    simp
  refine hRj.step_cv rfl (ny _ 2 9199 _ rfl hg) ?_
  refine sem_step Gj [R.cv] (Env.ofL [.int .i64 R.cuts.length]) rfl (by show [oneOf R.cv, ρ.g 9199] = _; rw [hg, oneOf_eq o1]; rfl) ⟨_, 2, _, _, rfl, hRj.cutw, rfl⟩ ?_
  refine sem_split (fun h => ?_) (fun h => ?_)
  · have h : ρ.i 8201 < (R.cuts.length : Int) := of_decide_eq_true h
    have ka : k < R.cuts.length := by omega
    obtain ⟨m, p, all, q1, q2, q3, q4⟩ := sl_at hRj.cutw (by decide) (i := ρ.i 8201) (by omega) h
    rw [hi, Int.toNat_natCast] at q4
    have q5 := way_cells (c := R.cuts[k]) fun i hi => by rw [q4 i hi, cutW_at ka hi]
    have hwk := wrap_up' (i := ρ.i 8201) (by omega) (by omega)
    rw [List.drop_eq_getElem_cons ka] at hr
    subst hr
    have again : ∀ (ρ' : Env) (X g : Nat) (Gk : List Ob) (acc' : List (Int × Int)), ρ'.i 8201 = ρ.i 8201 → ρ'.g g = encG Gk → acc'.length ≤ k + 1 → RcAt G Gk (ρ'.v X) acc' → rcS w Gk (ρ'.v X) acc' (R.cuts.drop (k + 1)) = (rcutG1 G R w, rcutV1 G R w) → acc' ++ outW w (R.cuts.drop (k + 1)) = outW w R.cuts →
        treeSem rc2S (rcLQ G R w) (KF [] (.bool (.var 0)) e0 2) ρ' (.again 5 8200 [(8200, (.hnd X)), (8201, (.int .i64 (.bin .add .i64 (.var 8201) (.lit 1)))), (9199, (.var g))]) := fun ρ' X g Gk acc' e1 e2 e3 e4 e5 e6 => by
      have o3 := e4.dst.one
      refine sem_again (Env.from_ _ 8200 ((Env.ofL [ρ'.v X, .int .i64 (ρ.i 8201 + 1)]).ans (encG Gk))) (Env.from_ag _ _ _) ?_ ⟨Gk, acc', _, k + 1, rfl, ?_, rfl, by omega, e3, e4, e5, e6⟩ ?_
      · show [ρ'.v X, Value.int .i64 (ρ.i 8201 + 1), encG Gk] = [oneOf (ρ'.v X), Value.int .i64 (IntKind.i64.wrap (ρ'.i 8201 + 1)), ρ'.g g]
        rw [e1, e2, hwk, oneOf_eq o3]
      · show ρ.i 8201 + 1 = _
        rw [hi]; rfl
      · show ((R.cuts.length : Int) - (ρ.i 8201 + 1)).toNat < ((R.cuts.length : Int) - ρ'.i 8201).toNat
        rw [e1]
        omega
    refine hRj.step_cv rfl (ny _ 2 9199 _ rfl hg) ?_
    refine sem_step Gj [R.cv, .int .i64 (ρ.i 8201)] _ rfl (by show [oneOf R.cv, Value.int .i64 (ρ.i 8201), ρ.g 9199] = _; rw [hg, oneOf_eq o1]; rfl) q1 ?_
    refine sem_step Gj [tokAt m p] (Env.ofL [.int .i64 R.cuts[k].1, .int .i64 R.cuts[k].2]) rfl (by show [tokAt m (p + 0), ρ.g 9199] = _; rw [hg]; rfl) ⟨m, p, all, rfl, q2, q3, by rw [q5]; rfl⟩ ?_
    refine sem_call pairS (Env.ofL [.int .i64 (way a b).1, .int .i64 (way a b).2]) rfl ⟨a, b, by show [Value.int .i64 (ρ.i 1), Value.int .i64 (ρ.i 2)] = _; rw [xa, xb], rfl, rfl⟩ ?_
    rw [← hwe]
    refine sem_step Gj [.agg #[.int .i64 R.cuts[k].1, .int .i64 R.cuts[k].2], .agg #[.int .i64 w.1, .int .i64 w.2]] (Env.ofL [.bool (!decide (R.cuts[k] = w))]) rfl (by show [_, _, ρ.g 9199] = _; rw [hg]; rfl)
      ⟨_, _, decide (R.cuts[k] = w), rfl, ⟨[_, _], [_, _], rfl, rfl, rfl, rfl, (ways_eq _ _).symm⟩, by show (!decide (R.cuts[k] = w)) = (decide (R.cuts[k] = w) != true); cases decide (R.cuts[k] = w) <;> rfl⟩ ?_
    unfold rcS at hcp
    rw [outW_cons] at hou
    refine sem_split (fun h => ?_) (fun h => ?_)
    · have h : (!decide (R.cuts[k] = w)) = true := h
      have h : ¬ R.cuts[k] = w := by simpa using h
      rw [if_neg h] at hcp hou
      refine hRj.step_cv rfl (ny _ 2 9199 _ rfl hg) ?_
      refine sem_step Gj [R.cv, .int .i64 (ρ.i 8201)] _ rfl (by show [oneOf R.cv, Value.int .i64 (ρ.i 8201), ρ.g 9199] = _; rw [hg, oneOf_eq o1]; rfl) q1 ?_
      refine sem_step Gj [tokAt m p] (Env.ofL [.int .i64 R.cuts[k].1, .int .i64 R.cuts[k].2]) rfl (by show [tokAt m (p + 0), ρ.g 9199] = _; rw [hg]; rfl) ⟨m, p, all, rfl, q2, q3, by rw [q5]; rfl⟩ ?_
      refine sem_capp (c := R.cuts[k]) hat.dst (by omega) (by show [_, ρ.g 9199] = _; rw [hg]; rfl) (by show [oneOf (ρ.v 8200), _, _] = _; rw [oneOf_eq o2]; rfl) ?_
      refine again _ 36200 37199 (cappG Gj (ρ.v 8200) acc R.cuts[k]) (acc ++ [R.cuts[k]]) rfl rfl (by simp; omega) (hat.next _) hcp ?_
      rw [List.append_assoc]
      exact hou
    · have h : (!decide (R.cuts[k] = w)) = false := h
      have h : R.cuts[k] = w := by simpa using h
      rw [if_pos h] at hcp hou
      exact again _ 8200 9199 Gj acc rfl hg (by omega) hat hcp hou
  · have h : ¬ ρ.i 8201 < (R.cuts.length : Int) := of_decide_eq_false h
    rw [List.drop_of_length_le (by omega)] at hr
    subst hr
    unfold rcS at hcp
    have hou : acc ++ [] = outW w R.cuts := hou
    rw [List.append_nil] at hou
    injection hcp with hc1 hc2
    rw [hc1] at hg
    have hd1 := (rcut_at G R w).dst
    have ho1 := hd1.one
    have hs1 := slv_one hd1
    have hy1 := (rcut_at G R w).keep _ _ hR.ob
    have hR2 := rcut1_is hR w
    refine sem_stcv (v := rcutV1 G R w) hy1 rfl hs1.1 ho1 hs1.2 (by show [tokAt (ρ.i 0).toNat ((0 : Int).toNat + 2), oneOf (ρ.v 8200), ρ.g 9199] = _; rw [xy, hg, hc2, oneOf_eq ho1]; simp) ?_
    show treeSem rc2S _ _ (Env.from_ _ 20200 ((Env.ofL []).ans (encG (rcutG2 G y R w)))) _
    refine sem_split (fun h => ?_) (fun h => ?_)
    · have h : ρ.b 3 = true := h
      rw [if_pos (by rw [← xc, h])] at hG
      have hs3 := slv_one (hR2.cut)
      refine hR2.step_cv rfl (ny _ 2 21199 _ rfl rfl) ?_
      refine sem_call pairS (Env.ofL [.int .i64 (way a b).1, .int .i64 (way a b).2]) rfl ⟨a, b, by show [Value.int .i64 (ρ.i 1), Value.int .i64 (ρ.i 2)] = _; rw [xa, xb], rfl, rfl⟩ ?_
      rw [← hwe]
      have hol := outW_le w R.cuts
      refine sem_capp (c := w) hR2.cut (by show (outW w R.cuts).length ≤ _; omega) rfl (by show [oneOf (rcutV1 G R w), _, _] = _; rw [oneOf_eq ho1]; rfl) ?_
      have hy3 := capp_not2 (c := w) hR2.cut _ _ hR2.ob fun _ _ e => by cases e
      refine sem_stcv (v := tok ((rcutG2 G y R w).length + 1)) hy3 rfl rfl rfl (fun cs e => by cases e) ?_ ?_
      · show [tokAt (ρ.i 0).toNat ((0 : Int).toNat + 2), _, _] = _
        rw [xy]
        simp
        exact ⟨rfl, rfl⟩
      · exact sem_retG rfl (by show Value.bool true = Value.bool (e0.b 0); rw [he, hw]) trivial (by rw [hG]; rfl)
    · have h : ρ.b 3 = false := h
      rw [if_neg (by rw [← xc, h]; simp)] at hG
      exact sem_retG rfl (by show Value.bool true = Value.bool (e0.b 0); rw [he, hw]) trivial (by rw [hG]; rfl)
end Go.Proofs.Yteklnfajpignoaa
