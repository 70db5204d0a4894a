/- What is proved: parts of the walk and of the plain law, 1 texts in one. No condition but those each law names. -/
import Derived.Test.YtohpcfhgbgfblaaGreatDoorS07
namespace Go.Proofs.YtohpcfhgbgfblaaGreatDoor
open Go.RowKit
open Sx (Ab DW Turns Did Foot)
set_option maxRecDepth 100000

/-- The steps that write pieces from a sector on. -/
def wrs (at_ : Int) (ps : List (List Nat)) : List Stp := ps.mapIdx fun i p => .wr (at_ + i) p
theorem wrs_length (at_ : Int) (ps : List (List Nat)) : (wrs at_ ps).length = ps.length := by simp [wrs]
theorem wrs_get (at_ : Int) (ps : List (List Nat)) (i : Nat) : (wrs at_ ps)[i]? = (ps[i]?).map fun p => .wr (at_ + i) p := by simp [wrs]
/-- The journal's numbers are such as they should be. -/
structure Jr.Ok (j : Jr) : Prop where
  first : j.first = 0 ∨ j.first = 256
  lo : j.first + 1 ≤ j.at_
  hi : j.at_ ≤ j.first + 256
/-- A slice that lies apart. -/
def Apart (w : World) (F : Foot) (b : Nat) (ao : Option Addr) : Prop := ∀ k o, ao = some ⟨k, o, none⟩ → k < w.heap.size ∧ k ≠ b ∧ ∀ x, ¬ F k x
theorem sl_went {w w' : World} {F F' : Foot} {b : Nat} {ao : Option Addr} {n c : Nat} {vs : List Value} (h : Sl w ao n c vs) (hap : Apart w F b ao) (hw : Went F b w F' w') : Sl w' ao n c vs := by
  refine ⟨h.len, h.le, h.nil, ?_⟩
  rcases h.cells with e | ⟨k, o, e, hc⟩
  · exact .inl e
  · obtain ⟨t1, t2, t3⟩ := hap k o e
    refine .inr ⟨k, o, e, fun y x hy => ?_⟩
    rw [← hc y x hy]
    unfold World.cell?
    rw [hw.block k t1 t2 t3]
theorem own_addr {w : World} {B e sz n c m k o : Nat} {xs : List Value} (h : w.ownsRow B e sz (.slice (some ⟨k, o, none⟩) n c) m xs) : B ≤ k ∧ k < w.heap.size := by
  rcases h.2 with ⟨hv, _⟩ | ⟨g, c', cur, hv, hb, hg, _⟩
  · cases hv
  · cases hv
    exact ⟨hb, (Array.getElem?_eq_some_iff.1 hg).1⟩
theorem pcs_128 {L p : List Nat} (h : p ∈ pcs L) : p.length ≤ 128 := by
  obtain ⟨i, _, rfl⟩ := List.mem_map.1 h
  unfold pc
  rw [List.length_cons, List.length_take]
  omega
def appL (j : Jr) (kind : Int) (l : List Nat) : List Stp := wrs j.at_ (pcs (laidL kind l)) ++ [.sy]
/-- What Append answers, and leaves. -/
def appE (A : Ab) (j : Jr) (kind : Int) (l : List Nat) : Int :=
  if j.dead || A.off then 9 else if laidE kind l.length ≠ 0 then laidE kind l.length else if j.first + 256 - j.at_ < npc (laidL kind l) then 8 else stpsE (appL j kind l) A
def appA (A : Ab) (j : Jr) (kind : Int) (l : List Nat) : Ab :=
  if j.dead || A.off then A else if laidE kind l.length ≠ 0 then A else if j.first + 256 - j.at_ < npc (laidL kind l) then A else stpsA (appL j kind l) A
def appJ (A : Ab) (j : Jr) (kind : Int) (l : List Nat) : Jr :=
  if j.dead || A.off then { j with dead := true } else if laidE kind l.length ≠ 0 then j else if j.first + 256 - j.at_ < npc (laidL kind l) then j
  else if stpsE (appL j kind l) A = 0 then { j with at_ := j.at_ + npc (laidL kind l) } else { j with dead := true }
set_option maxHeartbeats 4000000 in
theorem Append_any {w : World} {F : Foot} {dv : Value} {A : Ab} {b : Nat} {j : Jr} (h : JD w F dv A b j) (hj : j.Ok) (kind : Int) {ao : Option Addr} {n c : Nat} {l : List Nat} (hl : Sl w ao n c (bts l)) (hs : Small l) (hn : n < 1099511627776) (hap : Apart w F b ao) :
    Calls Tryz.prog 152 #[.pointer (some ⟨b, 0, none⟩), .int .i64 kind, .slice ao n c] w (JDid F w dv b (appA A j kind l) (appJ A j kind l) (.int .i64 (appE A j kind l))) := by
  obtain ⟨jf, jlo, jhi⟩ := hj
  have HL := Lib.hid hl
  have HP := Lib.hid hap
  have HSm := Lib.hid hs
  have H := Lib.hid h
  clear h hl hs hap
  by_cases hg : (j.dead || A.off) = true
  · have e1 : appE A j kind l = 9 := if_pos hg
    have e2 : appA A j kind l = A := if_pos hg
    have e3 : appJ A j kind l = { j with dead := true } := if_pos hg
    rw [e1, e2, e3]
    clear e1 e2 e3
    go_enter Tryz.func152, Tryz.ntmps152
    go_wp2_with (go_at_call 205; refine (Gone_any H.out).mono ?_; rintro _ w1 ⟨rfl, F1, h1, hw1⟩; rw [hg] at h1 ⊢)
    go_ret
    exact ⟨rfl, F1, h1, hw1⟩
  · have hg : (j.dead || A.off) = false := by simpa using hg
    have hd : j.dead = false := by cases hq : j.dead <;> simp_all
    have e1 : appE A j kind l = if laidE kind l.length ≠ 0 then laidE kind l.length else if j.first + 256 - j.at_ < npc (laidL kind l) then 8 else stpsE (appL j kind l) A := if_neg (by rw [hg]; decide)
    have e2 : appA A j kind l = if laidE kind l.length ≠ 0 then A else if j.first + 256 - j.at_ < npc (laidL kind l) then A else stpsA (appL j kind l) A := if_neg (by rw [hg]; decide)
    have e3 : appJ A j kind l = if laidE kind l.length ≠ 0 then j else if j.first + 256 - j.at_ < npc (laidL kind l) then j else if stpsE (appL j kind l) A = 0 then { j with at_ := j.at_ + npc (laidL kind l) } else { j with dead := true } := if_neg (by rw [hg]; decide)
    have hjj : ({ j with dead := false } : Jr) = j := by rw [← hd]
    have E1 := Lib.hid e1
    have E2 := Lib.hid e2
    have E3 := Lib.hid e3
    clear e1 e2 e3
    go_enter Tryz.func152, Tryz.ntmps152
    go_wp2_with (go_at_call 205; refine (Gone_any H.out).mono ?_; rintro _ w1 ⟨rfl, F1, h1, hw1⟩; rw [hg] at h1 ⊢)
    rw [hjj] at h1
    have hl1 := sl_went HL.out HP.out hw1
    refine (Laid_any kind hl1 HSm.out hn).mono ?_
    rintro _ w2 ⟨v, vs, rfl, hb2, hown2, hps2⟩
    have h2 := h1.below hb2
    have hw2 : Went F b w F1 w2 := hw1.trans (Went.of_below hb2)
    by_cases he : laidE kind l.length = 0
    · have E1' := Lib.hid (E1.out.trans (if_neg (by rw [he]; decide)))
      have E2' := Lib.hid (E2.out.trans (if_neg (by rw [he]; decide)))
      have E3' := Lib.hid (E3.out.trans (if_neg (by rw [he]; decide)))
      have hle2 := laidL_len kind l
      have hnp : npc (laidL kind l) ≤ 4 := by unfold npc; omega
      have hpl := pcs_length (laidL kind l)
      have R := Lib.hid (Room_any h2 (by omega) (by omega))
      obtain ⟨al, cl, rfl⟩ := own_form hown2
      rw [he]
      generalize hps : pcs (laidL kind l) = ps at *
      generalize npc (laidL kind l) = N at *
      have HPS := Lib.hid hps
      have HH := Lib.hid h2
      have HW := Lib.hid hw2
      have HO := Lib.hid hown2
      have HPc := Lib.hid hps2
      have HD1 := Lib.hid (fun (i x : Nat) (hf : F1 i x) => h1.dw.lt hf)
      have hblt := h1.lt
      have hz12 := hb2.size
      clear E1 E2 E3 he h1 hw1 hl1 hps2 hown2 h2 hw2 hps hle2
      by_cases hr : j.first + 256 - j.at_ < N
      · have q1 := Lib.hid (E1'.out.trans (if_pos hr))
        have q2 := Lib.hid (E2'.out.trans (if_pos hr))
        have q3 := Lib.hid (E3'.out.trans (if_pos hr))
        clear E1' E2' E3'
        go_wp2_with (go_at_call 207; refine R.out.mono ?_; rintro _ _ ⟨rfl, g3, rfl⟩)
        go_ret
        refine ⟨?_, F1, ?_, HW.out.trans (Went.of_below g3.below)⟩
        · rw [q1.out]; rfl
        · rw [q2.out, q3.out]; exact HH.out.below g3.below
      · have q1 := Lib.hid (E1'.out.trans (if_neg hr))
        have q2 := Lib.hid (E2'.out.trans (if_neg hr))
        have q3 := Lib.hid (E3'.out.trans (if_neg hr))
        clear E1' E2' E3'
        go_wp2_with (go_at_call 207; refine R.out.mono ?_; rintro _ _ ⟨rfl, g3, rfl⟩)
        have h3 := HH.out.below g3.below
        have hw3 := HW.out.trans (Went.of_below (F := F1) (b := b) g3.below)
        have hown3 := own_ext HO.out g3
        have hps3 := HPc.out.keep (Nat.le_refl _) g3.below
        have hz3 := g3.size
        generalize g3.val = w3 at *
        have H3 := Lib.hid h3
        have W3 := Lib.hid hw3
        have O3 := Lib.hid hown3
        have P3 := Lib.hid hps3
        clear h3 hw3 hown3 hps3 HH HW HO HPc R
        go_loopw [9, 10, 11, 33] (fun v9 _ _ v33 wr => ∃ (i : Nat) (us : List Value), i ≤ N ∧ v33 = .int .i64 i ∧ Below w3.heap.size w3 wr ∧ wr.ownsRow w3.heap.size 98 1 v9 i us ∧
            ∀ (k : Nat) s, ((wrs j.at_ ps).take i)[k]? = some s → ∃ u, us[k]? = some u ∧ StpAt wr F1 b dv w3.heap.size u s) (fun _ _ _ v33 _ => N - (intOf v33).toNat)
        case atStart => exact ⟨0, [], Nat.zero_le _, rfl, Below.refl _ _, World.ownsRow_nil _ _ _ _, fun k s h => by simp at h⟩
        case round =>
          obtain ⟨i, us, hi, rfl, hb, hown, hst⟩ := hrel
          obtain ⟨ao9, cap9, rfl⟩ := own_form hown
          have hz := hb.size
          have HST := Lib.hid hst
          have hjr := H3.out.below hb
          have c0 : wr.cell? ⟨b, 0, none⟩ = some dv := hjr.cell 0
          have c2 : wr.cell? ⟨b, 2, none⟩ = some (.int .i64 j.at_) := hjr.cell 2
          by_cases hlt : i < N
          · have hlt2 : (i : Int) < N := by omega
            have hvl : vs.length = N := by have := O3.out.1; omega
            obtain ⟨v0, hv0⟩ : ∃ v0, vs[i]? = some v0 := ⟨_, List.getElem?_eq_getElem (by omega)⟩
            obtain ⟨p, hp⟩ : ∃ p, ps[i]? = some p := ⟨_, List.getElem?_eq_getElem (by omega)⟩
            have hop := P3.out.2 i v0 p hv0 hp
            obtain ⟨a1, c1, rfl⟩ := own_form hop
            have hp128 : p.length ≤ 128 := pcs_128 (by rw [HPS.out]; exact List.mem_of_getElem? hp)
            obtain ⟨bl, ol, rfl, hbl, hcl⟩ := (Sl.own O3.out).at (by omega)
            have hx := (hb.cell (p := ⟨bl, ol + i, none⟩) hbl).trans (hcl i _ hv0)
            have hadd : wrap64 (j.at_ + i) = j.at_ + i := IntWalk.wrap64_in _ (by omega)
            have WS := Lib.hid (Write_stp hjr (i := j.at_ + i) (by omega) hp128 (Sl.own (own_keep hop (Nat.le_refl _) hb)) (N := w3.heap.size) (fun k o e => by
              subst e
              obtain ⟨t1, t2⟩ := own_addr hop
              exact ⟨t2, Nat.lt_of_lt_of_le t2 hz, by omega, fun x hx => absurd (HD1.out k x hx) (by omega)⟩))
            have HOP := Lib.hid hp
            clear hcl hop hp hjr hst
            go_wp2_with (first
              | (go_at_call 61; refine WS.out.mono ?_; rintro _ w4 ⟨u, rfl, u1, hb4, hst4⟩; obtain ⟨b1, b2, b3, q1', q2', q3', hu, hrest⟩ := id hst4; subst hu; clear hrest; have HS4 := Lib.hid hst4; clear hst4; have hz4 := hb4.size; have hown4 := (own_keep hown (Nat.le_refl _) hb4).alloc (.cells #[.func (.func 120) #[] #[.pointer (some ⟨b1, 0, none⟩), .pointer (some ⟨b2, 0, none⟩), .pointer (some ⟨b3, 0, none⟩)]] 98))
              | (at_builtin; refine wp_app_at elemS rfl _ _ rfl (B := w3.heap.size) (n := i) (xs := us) (news := [.func (.func 120) #[] #[.pointer (some ⟨b1, 0, none⟩), .pointer (some ⟨b2, 0, none⟩), .pointer (some ⟨b3, 0, none⟩)]]) rfl hown4 rfl rfl (fun y z hz => by have := new_cells w4 #[.func (.func 120) #[] #[.pointer (some ⟨b1, 0, none⟩), .pointer (some ⟨b2, 0, none⟩), .pointer (some ⟨b3, 0, none⟩)]] 98 y z hz; rw [add_plain_addr]; exact this) (fun y hy => by rw [List.mem_singleton] at hy; rw [hy]; rfl) (by decide) (by omega) (by simp; omega) ?_))
            intro g5 cap5 w5 hown5 hgr5 _ _
            have hb5 : Below w3.heap.size w3 w5 := ((hb.trans (hb4.mono hz)).alloc (Nat.le_trans hz hz4) _).trans ((Below.refl _ _).grown hgr5 (by simp; omega) (own_block hown4))
            have hst5 : ∀ (k : Nat) s, ((wrs j.at_ ps).take (i + 1))[k]? = some s → ∃ u, (us ++ [.func (.func 120) #[] #[.pointer (some ⟨b1, 0, none⟩), .pointer (some ⟨b2, 0, none⟩), .pointer (some ⟨b3, 0, none⟩)]])[k]? = some u ∧ StpAt w5 F1 b dv w3.heap.size u s := fun k s hs => by
              have hul : us.length = i := by have := hown.1; omega
              have hwl : (wrs j.at_ ps).length = N := by rw [wrs_length]; exact hpl
              have ht : (wrs j.at_ ps).take (i + 1) = (wrs j.at_ ps).take i ++ [.wr (j.at_ + i) p] := by rw [List.take_add_one, wrs_get, HOP.out]; rfl
              rw [ht] at hs
              rcases Nat.lt_trichotomy k i with h | h | h
              · rw [List.getElem?_append_left (by rw [List.length_take]; omega)] at hs
                obtain ⟨u, t1, t2⟩ := HST.out k s hs
                refine ⟨u, by rw [List.getElem?_append_left (by omega)]; exact t1, ?_⟩
                exact ((t2.went (Went.of_below hb4)).went (Went.of_below ((Below.refl _ w4).alloc (Nat.le_refl _) _))).apart hgr5 hown4 (Nat.le_refl _)
              · subst h
                rw [List.getElem?_append_right (by rw [List.length_take]; omega), List.length_take, Nat.min_eq_left (by omega), Nat.sub_self] at hs
                cases hs
                refine ⟨_, by rw [List.getElem?_append_right (by omega), hul, Nat.sub_self]; rfl, ?_⟩
                exact (HS4.out.went (Went.of_below ((Below.refl _ w4).alloc (Nat.le_refl _) _))).apart hgr5 hown4 (Nat.le_refl _)
              · rw [List.getElem?_eq_none (by simp; omega)] at hs
                cases hs
            have HS5 := Lib.hid hst5
            clear hst5 hgr5 hown4 hown hb4
            go_wp2
            go_roundw
            case rel => exact ⟨i + 1, _, by omega, rfl, hb5, hown5, HS5.out⟩
            case measure => simp [intOf]; omega
          · obtain rfl : i = N := by omega
            have hnl : ¬ (i : Int) < i := by omega
            have hown4 := hown.alloc (.cells #[.func (.func 63) #[dv] #[]] 98)
            clear hst
            go_wp2_with (at_builtin; refine wp_app_at elemS rfl _ _ rfl (B := w3.heap.size) (n := i) (xs := us) (news := [.func (.func 63) #[dv] #[]]) rfl hown4 rfl rfl (fun y z hz => by have := new_cells wr #[.func (.func 63) #[dv] #[]] 98 y z hz; rw [add_plain_addr]; exact this) (fun y hy => by rw [List.mem_singleton] at hy; rw [hy]; rfl) (by decide) (by omega) (by simp; omega) ?_)
            intro g5 cap5 w5 hown5 hgr5 _ _
            have hb5 : Below w3.heap.size w3 w5 := (hb.alloc hz _).trans ((Below.refl _ _).grown hgr5 (by simp; omega) (own_block hown4))
            have hul : us.length = i := by have := hown.1; omega
            have hwl : (wrs j.at_ ps).length = i := by rw [wrs_length]; exact hpl
            have hal : appL j kind l = wrs j.at_ ps ++ [.sy] := by unfold appL; rw [HPS.out]
            have hall : (appL j kind l).length = i + 1 := by rw [hal]; simp [hwl]
            have hst5 : StpsAt w5 F1 b dv (.slice (some ⟨g5, 0, none⟩) (i + 1) cap5) (appL j kind l) := by
              refine ⟨⟨w3.heap.size, _, by rw [hall]; exact hown5, fun k s hs => ?_⟩, fun k hk => ?_⟩
              · rw [hal] at hs
                rcases Nat.lt_trichotomy k i with h | h | h
                · rw [List.getElem?_append_left (by omega)] at hs
                  obtain ⟨u, t1, t2⟩ := HST.out k s (by rw [List.getElem?_take_of_lt h]; exact hs)
                  exact ⟨u, by rw [List.getElem?_append_left (by omega)]; exact t1, w3.heap.size, (t2.went (Went.of_below ((Below.refl _ wr).alloc (Nat.le_refl _) _))).apart hgr5 hown4 (Nat.le_refl _)⟩
                · subst h
                  rw [List.getElem?_append_right (by omega), hwl, Nat.sub_self] at hs
                  cases hs
                  exact ⟨_, by rw [List.getElem?_append_right (by omega), hul, Nat.sub_self]; rfl, 0, rfl⟩
                · rw [List.getElem?_eq_none (by simp; omega)] at hs
                  cases hs
              · have hk2 := own_block hown5 k hk
                exact ⟨by omega, fun x hx => absurd (HD1.out k x hx) (by omega)⟩
            have h5 := H3.out.below hb5
            have DA := Lib.hid (Does_any h5 hst5 (by rw [hall]; omega))
            have W5 := Lib.hid (W3.out.trans (Went.of_below (F := F1) (b := b) hb5))
            clear hst5 hgr5 hown4 hown hown5 h5 hall hal hwl hul
            go_wp2_with fail
            refine DA.out.mono ?_
            rintro _ w6 ⟨rfl, F2, h6, hw6⟩
            have W6 := Lib.hid (W5.out.trans hw6)
            by_cases hE : stpsE (appL j kind l) A = 0
            · have q3' := Lib.hid (q3.out.trans (if_pos hE))
              rw [hE] at h6 ⊢
              have hd6 : (j.dead || decide ((0 : Int) ≠ 0)) = false := by rw [hd]; rfl
              have h7 : JD w6 F2 dv (stpsA (appL j kind l) A) b j := by
                have : ({ j with dead := j.dead || decide ((0 : Int) ≠ 0) } : Jr) = j := by rw [hd6, ← hd]
                rwa [this] at h6
              have e2 : w6.cell? ⟨b, 2, none⟩ = some (.int .i64 j.at_) := h7.cell 2
              have f2 := h7.unfrozen 2
              have hadd : wrap64 (j.at_ + i) = j.at_ + i := IntWalk.wrap64_in _ (by omega)
              have HD := Lib.hid (h7.set (k := 2) (v := .int .i64 (j.at_ + i)) (j' := { j with at_ := j.at_ + i }) rfl)
              have Q1 := Lib.hid (q1.out.trans hE)
              clear h6 h7 hw6 hE
              go_wp2
              go_ret
              refine ⟨?_, F2, ?_, W6.out.trans Went.of_set⟩
              · rw [Q1.out]; rfl
              · rw [q2.out, q3'.out]; exact HD.out
            · have q3' := Lib.hid (q3.out.trans (if_neg hE))
              have hb6 : (stpsE (appL j kind l) A == 0) = false := by rw [beq_eq_false_iff_ne]; exact hE
              have h7 : JD w6 F2 dv (stpsA (appL j kind l) A) b { j with dead := true } := by
                have : (j.dead || decide (stpsE (appL j kind l) A ≠ 0)) = true := by rw [hd, decide_eq_true hE]; rfl
                rwa [this] at h6
              have HD := Lib.hid h7
              clear h6 h7 hw6 hE
              generalize stpsE (appL j kind l) A = er at *
              go_wp2
              go_ret
              refine ⟨?_, F2, ?_, W6.out⟩
              · rw [q1.out]; rfl
              · rw [q2.out, q3'.out]; exact HD.out
    · have q1 := Lib.hid (E1.out.trans (if_pos he))
      have q2 := Lib.hid (E2.out.trans (if_pos he))
      have q3 := Lib.hid (E3.out.trans (if_pos he))
      have hne : (laidE kind l.length == 0) = false := by rw [beq_eq_false_iff_ne]; exact he
      have HH := Lib.hid h2
      have HW := Lib.hid hw2
      clear E1 E2 E3 he h1 hw1 hl1 hps2 hown2 h2 hw2
      generalize laidE kind l.length = er at *
      go_wp2
      go_ret
      refine ⟨?_, F1, ?_, HW.out⟩
      · rw [q1.out]; rfl
      · rw [q2.out, q3.out]; exact HH.out
end Go.Proofs.YtohpcfhgbgfblaaGreatDoor
