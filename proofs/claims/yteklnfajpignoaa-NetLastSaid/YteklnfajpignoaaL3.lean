/- What is proved: the walk of NetLast. No condition but those the law names. -/
import Derived.Test.YteklnfajpignoaaLA
namespace Go.Proofs.Yteklnfajpignoaa
open Sx hiding Sl
set_option maxRecDepth 100000

theorem last_sem {G0 : List Ob} {v : Value} {L : List AD} (a who : Int) (hA : Acts G0 v L) (hro0 : ∀ (n : Nat) o, G0[n]? = some o → ∃ s len cells, o = .ro s len cells) :
    treeSem lcS (lLQ G0 (G0.length + 1) (2 + pickI a 31) L) (KL G0) ((Env.ofL [.int .i64 a, v, .int .i64 who]).st (encG G0)) treeLast := by
  have ov := hA.sl.one
  have fin : ∀ {G' : List Ob}, KeepsRo G0 G' → ∀ (n : Nat) o, G0[n]? = some o → G'[n]? = some o := fun h n o ho => by
    obtain ⟨s, le, c, rfl⟩ := hro0 n o ho
    exact h _ _ _ _ ho
  have wk : ∀ {G' : List Ob}, KeepsRo G0 G' → KeepsRo G0 (worksG G') := fun h => h.trans (works_ro _)
  have hp := pick_range (a := a) (b := 31) (by decide) (by decide)
  refine sem_call pickS (Env.ofL [.int .i64 (pickI a 31)]) rfl ⟨a, 31, rfl, rfl⟩ ?_
  have hwm : IntKind.i64.wrap (2 + pickI a 31) = 2 + pickI a 31 := wrap_of (by omega) (by omega)
  obtain ⟨m, hm⟩ : ∃ m, m = 2 + pickI a 31 := ⟨_, rfl⟩
  rw [← hm] at hwm ⊢
  have hgood : ¬ (m < 1 ∨ 32 < m) := by omega
  have hnr := new_ro G0 m
  have hnv : newV G0 m = tokAt (G0.length + 1) 0 := by unfold newV; rw [if_neg hgood]
  refine sem_step G0 [.int .i64 m] ((Env.ofL [newV G0 m]).ans (encG (newG G0 m))) rfl (by show [Value.int .i64 (IntKind.i64.wrap (2 + pickI a 31)), _] = _; rw [← hm, hwm]; rfl) ⟨m, rfl, rfl, rfl⟩ ?_
  rw [hnv]
  obtain ⟨n, hn⟩ : ∃ n, n = G0.length + 1 := ⟨_, rfl⟩
  have is0 : IsNet (newG G0 m) n (newNet m G0.length) := by rw [hn]; exact new_is G0 hgood
  rw [← hn]
  obtain ⟨G1, hG1⟩ : ∃ g, g = newG G0 m := ⟨_, rfl⟩
  rw [← hG1] at is0 hnr ⊢
  have hl1 : n < G1.length := (List.getElem?_eq_some_iff.1 is0.ob).1
  refine sem_step G1 [tokAt n 0, .pointer none] (Env.ofL [.bool false]) rfl rfl ⟨_, _, false, rfl, ⟨rfl, rfl, .inr ⟨_, _, rfl, hl1⟩⟩, rfl⟩ ?_
  refine sem_split (fun h => by cases h) (fun _ => ?_)
  have hA1 := hA.keep hnr
  refine sem_step G1 [v] (Env.ofL [.int .i64 L.length]) rfl (by show [oneOf v, _] = _; rw [oneOf_eq ov]; rfl) ⟨v, 4, _, _, rfl, hA1.sl, rfl⟩ ?_
  refine sem_split (fun _ => ?_) (fun h => ?_)
  · refine sem_step G1 [tokAt n 0, .pointer none] (Env.ofL [.bool true]) rfl rfl ⟨_, _, false, rfl, ⟨rfl, rfl, .inr ⟨_, _, rfl, hl1⟩⟩, rfl⟩ ?_
    refine sem_split (fun _ => ?_) (fun h => by cases h)
    refine sem_step G1 [] ((Env.ofL [.bool true]).ans (encG (worksG G1))) rfl rfl ⟨rfl, rfl, rfl⟩ ?_
    exact sem_retL rfl rfl rfl (fin (wk hnr))
  have hL : ¬ ((L.length : Nat) : Int) > 100 := of_decide_eq_false h
  refine sem_step G1 [v] ((Env.ofL [.bool (greatB L)]).ans (encG G1)) rfl (by show [oneOf v, _] = _; rw [oneOf_eq ov]; rfl) ⟨v, L, rfl, hA1, rfl, rfl⟩ ?_
  refine sem_split (fun _ => ?_) (fun h => ?_)
  · refine sem_step G1 [tokAt n 0, .pointer none] (Env.ofL [.bool true]) rfl rfl ⟨_, _, false, rfl, ⟨rfl, rfl, .inr ⟨_, _, rfl, hl1⟩⟩, rfl⟩ ?_
    refine sem_split (fun _ => ?_) (fun h => by cases h)
    refine sem_step G1 [] ((Env.ofL [.bool true]).ans (encG (worksG G1))) rfl rfl ⟨rfl, rfl, rfl⟩ ?_
    exact sem_retL rfl rfl rfl (fin (wk hnr))
  have hgr : greatB L = false := h
  have hsm : ∀ x ∈ L, x.bs.length ≤ 500 := by
    unfold greatB at hgr
    rw [Bool.or_eq_false_iff, decide_eq_false_iff_not, List.any_eq_false] at hgr
    exact fun x hx => by have := hgr.2 x hx; simpa using this
  refine sem_loop (Env.from_ _ 21200 ((Env.ofL [.int .i64 0, .slice none 0 0]).ans (encG G1))) (Env.from_ag _ _ _) rfl
    ⟨G1, newNet m G0.length, [], 0, rfl, rfl, Nat.zero_le _, ⟨is0, .inl ⟨rfl, rfl, rfl⟩, .inl ⟨rfl, rfl, rfl⟩, fun l hl => (by cases hl), fun l hl => (by cases hl), fun d e => (by cases e), fun d e => (by cases e), fun d e => (by cases e)⟩, Flat.new m, Nat.le_refl _, fun l hl => (by cases hl), hnr⟩ (by kernel_rfl) (fun ρ1 ρ2 h => ?_) (fun ρ hag hinv => ?_)
  · show ((L.length : Int) - ρ2.i 21200).toNat = ((L.length : Int) - ρ1.i 21200).toNat
    rw [(h 21200 (by decide)).1]
  obtain ⟨G, N, ri, k, hg, hi, hk, hT, hF, hrk, hw, hK⟩ := hinv
  have hg : ρ.g 22199 = encG G := hg
  have hi : ρ.i 21200 = k := hi
  have hT : One G n N (ρ.v 21201) ri := hT
  have x0 : ρ.v 1 = v := (hag 1 (by decide)).2.2
  have xw : ρ.i 2 = who := (hag 2 (by decide)).1
  have xp : ρ.i 2200 = pickI a 31 := (hag 2200 (by decide)).1
  have xn : ρ.v 6200 = tokAt n 0 := (hag 6200 (by decide)).2.2
  have hA2 := hA.keep hK
  have oi := hT.di.one
  refine sem_step G [v] (Env.ofL [.int .i64 L.length]) rfl (by show [oneOf (ρ.v 1), ρ.g 22199] = _; rw [x0, hg, oneOf_eq ov]; rfl) ⟨v, 4, _, _, rfl, hA2.sl, rfl⟩ ?_
  refine sem_split (fun h => ?_) (fun h => ?_)
  · have h : ρ.i 21200 < (L.length : Int) := of_decide_eq_true h
    have ka : k < L.length := by omega
    obtain ⟨x, hx⟩ : ∃ x, x = L[k] := ⟨_, rfl⟩
    have hxm : x ∈ L := by rw [hx]; exact List.getElem_mem _
    have hb := (hA2.body x hxm).1
    have hbl := hsm x hxm
    have hwi := wrap_up' (i := ρ.i 21200) (by omega) (by omega)
    obtain ⟨m', p, all, q1, q2, q3, q4⟩ := sl_at hA2.sl (by decide) (i := ρ.i 21200) (by omega) h
    have c1 := q4 1 (by decide)
    have c2 := q4 2 (by decide)
    have c3 := q4 3 (by decide)
    rw [hi, Int.toNat_natCast, rowA_at ka (by decide), ← hx] at c1 c2 c3
    have ga := pick_range (a := x.a) (b := m) (by omega) (by omega)
    have gb := pick_range (a := x.b) (b := m) (by omega) (by omega)
    have wa : IntKind.i64.wrap (1 + pickI x.a m) = 1 + pickI x.a m := wrap_of (by omega) (by omega)
    have wb : IntKind.i64.wrap (1 + pickI x.b m) = 1 + pickI x.b m := wrap_of (by omega) (by omega)
    have ob := hb.one
    refine sem_step G [v, .int .i64 (ρ.i 21200)] _ rfl (by show [oneOf (ρ.v 1), Value.int .i64 (ρ.i 21200), ρ.g 22199] = _; rw [x0, hg, oneOf_eq ov]; rfl) q1 ?_
    refine sem_step G [tokAt m' (p + 1)] (Env.ofL [.int .i64 x.a]) rfl (by show [tokAt m' (p + 1), ρ.g 22199] = _; rw [hg]; rfl) ⟨m', p + 1, all, _, rfl, q2, c1, rfl⟩ ?_
    refine sem_call pickS (Env.ofL [.int .i64 (pickI x.a m)]) rfl ⟨x.a, m, by show [Value.int .i64 x.a, Value.int .i64 (IntKind.i64.wrap (2 + ρ.i 2200))] = _; rw [xp, ← hm, hwm], rfl⟩ ?_
    refine sem_step G [v, .int .i64 (ρ.i 21200)] _ rfl (by show [oneOf (ρ.v 1), Value.int .i64 (ρ.i 21200), ρ.g 22199] = _; rw [x0, hg, oneOf_eq ov]; rfl) q1 ?_
    refine sem_step G [tokAt m' (p + 2)] (Env.ofL [.int .i64 x.b]) rfl (by show [tokAt m' (p + 2), ρ.g 22199] = _; rw [hg]; rfl) ⟨m', p + 2, all, _, rfl, q2, c2, rfl⟩ ?_
    refine sem_call pickS (Env.ofL [.int .i64 (pickI x.b m)]) rfl ⟨x.b, m, by show [Value.int .i64 x.b, Value.int .i64 (IntKind.i64.wrap (2 + ρ.i 2200))] = _; rw [xp, ← hm, hwm], rfl⟩ ?_
    refine sem_step G [v, .int .i64 (ρ.i 21200)] _ rfl (by show [oneOf (ρ.v 1), Value.int .i64 (ρ.i 21200), ρ.g 22199] = _; rw [x0, hg, oneOf_eq ov]; rfl) q1 ?_
    refine sem_step G [tokAt m' (p + 3)] (Env.ofL [x.v]) rfl (by show [tokAt m' (p + 3), ρ.g 22199] = _; rw [hg]; rfl) ⟨m', p + 3, all, _, rfl, q2, c3, hnd_nam rfl ob⟩ ?_
    obtain ⟨lt, hlt⟩ : ∃ l : Lt, l = ⟨1 + pickI x.a m, 1 + pickI x.b m, x.v, x.bs⟩ := ⟨_, rfl⟩
    have hsl : Sx.Sl G lt.v 1 lt.bs.length (lt.bs.map (Value.int .u8)) := by rw [hlt]; exact hb.sl
    refine sem_step G [tokAt n 0, .int .i64 lt.f, .int .i64 lt.t, lt.v] ((Env.ofL [.bool (sendOk N lt)]).ans (encG (sendG G n N lt))) rfl (by show [oneOf (ρ.v 6200), Value.int .i64 (IntKind.i64.wrap (1 + pickI x.a m)), Value.int .i64 (IntKind.i64.wrap (1 + pickI x.b m)), oneOf x.v, ρ.g 22199] = _; rw [xn, hg, wa, wb, oneOf_eq ob, hlt]; rfl) ⟨n, N, lt, rfl, hT.is_, hsl, rfl, rfl⟩ ?_
    have hs : Step n N G (sendN G N lt) (sendG G n N lt) := Step.send hT.is_ hsl
    have hso : sendOk N lt = (!decide (lt.f = lt.t) && decide (lt.bs.length ≤ 400)) := by
      rw [sendOk_data]
      exact hF.sendOk (by rw [List.length_map]; omega) (by rw [hlt]; exact ⟨by show 1 ≤ 1 + _; omega, by show 1 + _ ≤ m; omega⟩) (by rw [hlt]; exact ⟨by show 1 ≤ 1 + _; omega, by show 1 + _ ≤ m; omega⟩)
    have hT1 := hT.step hs
    have hK1 := hK.trans (hs.keepsRo hT.is_)
    have hF1 : Flat (sendN G N lt).data m (if sendOk N lt then ri.map Lt.data ++ [lt.data] else ri.map Lt.data) := by rw [send_data, sendOk_data]; exact hF.send lt.data
    have again : ∀ (ρ' : Env) (X g : Nat) (G' : List Ob) (N' : NetM) (ri' : List Lt), ρ'.i 21200 = ρ.i 21200 → ρ'.g g = encG G' → One G' n N' (ρ'.v X) ri' → Flat N'.data m (ri'.map Lt.data) → ri'.length ≤ k + 1 → (∀ l ∈ ri', (1 ≤ l.f ∧ l.f ≤ m) ∧ (1 ≤ l.t ∧ l.t ≤ m) ∧ l.f ≠ l.t) → KeepsRo G0 G' →
        treeSem lcS (lLQ G0 n m L) (KL G0) ρ' (.again 7 21200 [(21200, (.int .i64 (.bin .add .i64 (.var 21200) (.lit 1)))), (21201, (.hnd X)), (22199, (.var g))]) := fun ρ' X g G' N' ri' e1 e2 e3 e4 e5 e6 e7 => by
      have o3 := e3.di.one
      refine sem_again (Env.from_ _ 21200 ((Env.ofL [.int .i64 (ρ.i 21200 + 1), ρ'.v X]).ans (encG G'))) (Env.from_ag _ _ _) ?_ ⟨G', N', ri', k + 1, rfl, ?_, by omega, e3, e4, e5, e6, e7⟩ ?_
      · show [Value.int .i64 (ρ.i 21200 + 1), ρ'.v X, encG G'] = [Value.int .i64 (IntKind.i64.wrap (ρ'.i 21200 + 1)), oneOf (ρ'.v X), ρ'.g g]
        rw [e1, e2, hwi, oneOf_eq o3]
      · show ρ.i 21200 + 1 = _
        rw [hi]; rfl
      · show ((L.length : Int) - (ρ.i 21200 + 1)).toNat < ((L.length : Int) - ρ'.i 21200).toNat
        rw [e1]
        omega
    refine sem_split (fun h => ?_) (fun h => ?_)
    · have h : (IntKind.i64.wrap (1 + pickI x.a m) == IntKind.i64.wrap (1 + pickI x.b m)) = true := h
      have hft : lt.f = lt.t := by rw [wa, wb] at h; rw [hlt]; simpa using h
      have hno : sendOk N lt = false := by rw [hso, decide_eq_true hft]; rfl
      refine sem_split (fun h => absurd (show sendOk N lt = true from h) (by rw [hno]; simp)) (fun _ => ?_)
      rw [hno] at hF1
      exact again _ _ _ (sendG G n N lt) (sendN G N lt) ri rfl rfl hT1 hF1 (by omega) hw hK1
    have h : (IntKind.i64.wrap (1 + pickI x.a m) == IntKind.i64.wrap (1 + pickI x.b m)) = false := h
    have hft : lt.f ≠ lt.t := by rw [wa, wb] at h; rw [hlt]; simpa using h
    have hso' : sendOk N lt = decide (x.bs.length ≤ 400) := by rw [hso, decide_eq_false hft, hlt]; rfl
    obtain ⟨G2, hG2⟩ : ∃ g, g = sendG G n N lt := ⟨_, rfl⟩
    obtain ⟨N2, hN2⟩ : ∃ g, g = sendN G N lt := ⟨_, rfl⟩
    rw [← hG2, ← hN2] at hT1
    rw [← hG2] at hK1 ⊢
    rw [← hN2] at hF1
    have hA3 := hA.keep hK1
    have hb3 := (hA3.body x hxm).1
    obtain ⟨m2, p2, all2, r1, r2, r3, r4⟩ := sl_at hA3.sl (by decide) (i := ρ.i 21200) (by omega) (by omega)
    have d3 := r4 3 (by decide)
    rw [hi, Int.toNat_natCast, rowA_at ka (by decide), ← hx] at d3
    have nidx : ∀ (ρ' : Env) (g : Nat), ρ'.v 1 = ρ.v 1 → ρ'.i 21200 = ρ.i 21200 → E.nams ρ' lay0 [.hnd 1, .int .i64 (.var 21200), .var g] = [v, .int .i64 (ρ.i 21200)] ++ [ρ'.g g] := fun ρ' g e1 e2 => by
      show [oneOf (ρ'.v 1), Value.int .i64 (ρ'.i 21200), ρ'.g g] = _
      rw [e1, e2, x0, oneOf_eq ov]
      rfl
    refine sem_step G2 [v, .int .i64 (ρ.i 21200)] _ rfl (nidx _ _ rfl rfl) r1 ?_
    refine sem_step G2 [tokAt m2 (p2 + 3)] (Env.ofL [x.v]) rfl rfl ⟨m2, p2 + 3, all2, _, rfl, r2, d3, hnd_nam rfl ob⟩ ?_
    refine sem_step G2 [x.v] (Env.ofL [.int .i64 x.bs.length]) rfl (by show [oneOf x.v, _] = _; rw [oneOf_eq ob]; rfl) ⟨x.v, 1, _, _, rfl, hb3.sl, rfl⟩ ?_
    refine sem_split (fun _ => ?_) (fun h => absurd (show (sendOk N lt == decide (((x.bs.length : Nat) : Int) ≤ 400)) = false from h) (by rw [hso', show decide (((x.bs.length : Nat) : Int) ≤ 400) = decide (x.bs.length ≤ 400) from decide_eq_decide.2 (by omega)]; simp))
    refine sem_step G2 [v, .int .i64 (ρ.i 21200)] _ rfl (nidx _ _ rfl rfl) r1 ?_
    refine sem_step G2 [tokAt m2 (p2 + 3)] (Env.ofL [x.v]) rfl rfl ⟨m2, p2 + 3, all2, _, rfl, r2, d3, hnd_nam rfl ob⟩ ?_
    refine sem_step G2 [x.v] (Env.ofL [.int .i64 x.bs.length]) rfl (by show [oneOf x.v, _] = _; rw [oneOf_eq ob]; rfl) ⟨x.v, 1, _, _, rfl, hb3.sl, rfl⟩ ?_
    refine sem_split (fun h => ?_) (fun h => ?_)
    · have h : ((x.bs.length : Nat) : Int) ≤ 400 := of_decide_eq_true h
      rw [hso', decide_eq_true (by omega)] at hF1
      refine sem_step G2 [v, .int .i64 (ρ.i 21200)] _ rfl (nidx _ _ rfl rfl) r1 ?_
      refine sem_step G2 [tokAt m2 (p2 + 3)] (Env.ofL [x.v]) rfl rfl ⟨m2, p2 + 3, all2, _, rfl, r2, d3, hnd_nam rfl ob⟩ ?_
      refine sem_step G2 [x.v] ((Env.ofL [cpV G2 x.bs]).ans (encG (cpG G2 x.bs))) rfl (by show [oneOf x.v, _] = _; rw [oneOf_eq ob]; rfl) ⟨x.v, x.bs, rfl, hb3.sl, by omega, rfl, rfl⟩ ?_
      have hcp := cp_at G2 x.bs
      have hT2 := hT1.step (Step.of_keeps hT1.is_ hcp.keep hcp.len)
      obtain ⟨l2, hl2⟩ : ∃ l : Lt, l = ⟨1 + pickI x.a m, 1 + pickI x.b m, cpV G2 x.bs, x.bs⟩ := ⟨_, rfl⟩
      have hLo : LOk (cpG G2 x.bs) l2 := by rw [hl2]; exact ⟨hcp.dst, by show x.bs.length ≤ _; omega⟩
      have o2 : l2.v.oneCell' = true := hLo.1.one
      refine sem_step (cpG G2 x.bs) [.agg l2.cells.toArray] _ rfl (by show [Value.agg #[.int .i64 (IntKind.i64.wrap (1 + pickI x.a m)), .int .i64 (IntKind.i64.wrap (1 + pickI x.b m)), oneOf (cpV G2 x.bs)], _] = _; rw [wa, wb, oneOf_eq (hcp.dst.one), hl2]; rfl) (lit_bs3 o2) ?_
      refine sem_step (litL (cpG G2 x.bs) l2) [ρ.v 21201, tok (cpG G2 x.bs).length] _ rfl (by show [oneOf (ρ.v 21201), _, _] = _; rw [oneOf_eq oi]; rfl) (lit_app3 hT2.di (by omega)) ?_
      refine again _ 89200 90199 (pushG (cpG G2 x.bs) (ρ.v 21201) ri l2) N2 (ri ++ [l2]) rfl rfl (hT2.push hLo) ?_ (by simp; omega) (fun l hl => ?_) ((hK1.trans fun q s c e hq => hcp.keep q _ hq).trans (push_ro hT2.di))
      · rw [List.map_append]
        rw [if_pos rfl] at hF1
        rw [hlt] at hF1
        rw [hl2]
        exact hF1
      · rcases List.mem_append.1 hl with hl | hl
        · exact hw l hl
        · rw [List.mem_singleton] at hl
          rw [hl, hl2]
          rw [hlt] at hft
          exact ⟨⟨by show 1 ≤ 1 + _; omega, by show 1 + _ ≤ m; omega⟩, ⟨by show 1 ≤ 1 + _; omega, by show 1 + _ ≤ m; omega⟩, hft⟩
    · have h : ¬ ((x.bs.length : Nat) : Int) ≤ 400 := of_decide_eq_false h
      rw [hso', decide_eq_false (by omega), if_neg (by simp)] at hF1
      exact again _ 21201 53199 G2 N2 ri rfl rfl hT1 hF1 (by omega) hw hK1
  · have h : ¬ ρ.i 21200 < (L.length : Int) := of_decide_eq_false h
    have hr : ri.length ≤ 100 := by omega
    refine sem_step G [ρ.v 21201] (Env.ofL [.int .i64 ri.length]) rfl (by show [oneOf (ρ.v 21201), ρ.g 22199] = _; rw [hg, oneOf_eq oi]; rfl) ⟨_, 3, _, _, rfl, hT.rows, rfl⟩ ?_
    refine sem_split (fun h => ?_) (fun _ => ?_)
    · have h : ((ri.length : Nat) : Int) > 0 := of_decide_eq_true h
      have hq := pick_range (a := who) (b := (ri.length : Nat)) (by omega) (by omega)
      obtain ⟨q, hqe⟩ : ∃ q, q = (pickI who (ri.length : Nat)).toNat := ⟨_, rfl⟩
      have hqi : pickI who (ri.length : Nat) = q := by omega
      have hql : q < ri.length := by omega
      refine sem_step G [ρ.v 21201] (Env.ofL [.int .i64 ri.length]) rfl (by show [oneOf (ρ.v 21201), ρ.g 22199] = _; rw [hg, oneOf_eq oi]; rfl) ⟨_, 3, _, _, rfl, hT.rows, rfl⟩ ?_
      refine sem_call pickS (Env.ofL [.int .i64 q]) rfl ⟨who, (ri.length : Nat), by show [Value.int .i64 (ρ.i 2), Value.int .i64 _] = _; rw [xw]; rfl, hqi.symm⟩ ?_
      obtain ⟨m', p, all, q1, q2, q3, q4⟩ := sl_at hT.rows (by decide) (i := (q : Int)) (by omega) (by omega)
      refine sem_step G [ρ.v 21201, .int .i64 q] _ rfl (by show [oneOf (ρ.v 21201), Value.int .i64 q, ρ.g 22199] = _; rw [hg, oneOf_eq oi]; rfl) q1 ?_
      obtain ⟨y, hy⟩ : ∃ y, y = ri[q] := ⟨_, rfl⟩
      have hym : y ∈ ri := by rw [hy]; exact List.getElem_mem _
      have oy := (hT.li _ hym).1.one
      refine sem_step G [tokAt m' p] (Env.ofL y.cells) rfl (by show [tokAt m' (p + 0), ρ.g 22199] = _; rw [hg]; rfl) ⟨m', p, all, rfl, q2, q3, ?_⟩ ?_
      · show Value.agg #[.int .i64 y.f, .int .i64 y.t, oneOf y.v] = _
        rw [oneOf_eq oy]
        have e4 : (all.drop p).take 3 = y.cells := by
          apply List.ext_getElem?
          intro j
          by_cases hj : j < 3
          · rw [List.getElem?_take_of_lt hj, List.getElem?_drop, q4 j hj, Int.toNat_natCast, rowC_at hql hj, hy]
          · rw [List.getElem?_eq_none (by rw [List.length_take]; omega), List.getElem?_eq_none (by show 3 ≤ j; omega)]
        rw [e4]
        rfl
      obtain ⟨w1, w2, w3⟩ := hw y hym
      have hwb : wayB m y.t y.f = true := by unfold wayB; rw [decide_eq_true w1, decide_eq_true w2, decide_eq_false (fun e => w3 e.symm)]; rfl
      have hwb' : wayB m y.f y.t = true := by unfold wayB; rw [decide_eq_true w1, decide_eq_true w2, decide_eq_false w3]; rfl
      have hs := Step.cut hT.is_ y.t y.f true
      have hwn : wayB N.nodes y.t y.f = true := by rw [nodes_data, hF.nodes]; exact hwb
      refine sem_step G [tokAt n 0, .int .i64 y.t, .int .i64 y.f, .bool true] ((Env.ofL [.bool true]).ans (encG (cutG G N y.t y.f true))) rfl (by show [oneOf (ρ.v 6200), Value.int .i64 y.t, Value.int .i64 y.f, Value.bool true, ρ.g 22199] = _; rw [xn, hg]; rfl) ⟨n, N, y.t, y.f, true, rfl, hT.is_, by rw [hwn]; rfl, rfl⟩ ?_
      have hC : CutAt (cutN N y.t y.f true).data m (ri.map Lt.data) y.f y.t := by
        rw [cut_data]
        have := hF.cut hwb
        exact ⟨this.nodes, this.row, fun p => by rw [this.cuts, way_swap]⟩
      exact last19 fin xn rfl rfl rfl (hT.step hs) hC hwb' hr (hK.trans (hs.keepsRo hT.is_))
    · exact last31_30200 fin xn hg hT hF hr hK
end Go.Proofs.Yteklnfajpignoaa
