/-
  What is proved: a function's contract on the store of objects, out of what it does in a world; no program in sight. No condition.
-/
import Derived.Test.YteklnfajpignoaaSzE
namespace Go.Proofs.Yteklnfajpignoaa
namespace Sx
open Go.RowKit

/-- A function's contract out of what it does in a world. -/
theorem turn_calls {P : Program} {fn : FuncId} {res : E} {R : List Ob → List Value → Env → Prop} (hr : (res.noPtr && res.lt stride && decide (fn < primBase)) = true)
    (hrun : ∀ (w : World) (h : Nat → OneV) (F : Foot) (G : List Ob) (f : Nat → Foot) (l : List Value) (e : Env), (∀ v ∈ l, Inv h G.length v) → Objs w h F G f → R G l e →
      Calls P fn (l.map (concE h)).toArray w fun en w' => ∃ h' F' f' G' v, en = .returned (concE h' v) ∧ res.nam e lay0 = v ∧ Inv h' G'.length v ∧ e.g gv = encG G' ∧
        Fr F w w' ∧ Objs w' h' F' G' f' ∧ (∀ i x, F' i x → F i x ∨ w.heap.size ≤ i) ∧ G.length ≤ G'.length ∧ ∀ n, n < G.length → h' n = h n) :
    (mkCon fn [] res 2).holds P (conR R) := by
  simp only [Bool.and_eq_true, decide_eq_true_eq] at hr
  obtain ⟨⟨hr1, hr2⟩, hfp⟩ := hr
  refine ⟨⟨fun _ => ?_, fun hp => absurd hp (Nat.not_le.2 hfp)⟩, fun h => absurd rfl h, fun h => absurd rfl h⟩
  rintro w args vs qs e0 h F g hpts _ hgh ⟨G, l, hvs, hR⟩
  have hvs' : vs ++ [g] = l ++ [encG G] := hvs
  obtain ⟨rfl, rfl⟩ := store_last l hvs'
  obtain ⟨hk, _⟩ := hgh (by show 2 ≠ 0; decide)
  obtain ⟨f, H⟩ := objs_of hk
  have hp0 : args = vs.map (concE h) := (hpts h (.inl rfl)).1
  have hinv : ∀ v ∈ vs, Inv h G.length v := inv_args (raw := args) fun h' hh => (hpts h' (.inr ⟨by show 2 ≠ 0; decide, fun n hn => hh n (by rwa [cnt_enc] at hn)⟩)).1
  rw [hp0]
  refine (hrun w h F G f vs e0 hinv H hR).mono ?_
  rintro en w' ⟨h', F', f', G', v, rfl, h2, h3, h4, h5, h6, h7, h8, h9⟩
  refine ⟨h', F', ?_, fun ρ base hat => ⟨fun ι hA => ?_, fun p q g hz => by cases hz⟩⟩
  · rw [h4]
    exact ⟨h5.mono fun _ _ _ hx => .inr hx, ⟨G', f', rfl, h6⟩, h7, by rw [cnt_enc, cnt_enc]; exact h8, fun n hn => h9 n (by rwa [cnt_enc] at hn)⟩
  · have e1 := E.shift_val hat (ι := ι) (ι' := ι) rfl res hr2 (E.ptr_adr hr1)
    show Ending.returned _ = Ending.returned ((res.shift base).val ρ ι)
    rw [e1, E.val_conc e0 ι lay0 hr1, h2]
    rw [h3 ι.h fun n hn => hA n (by rw [h4]; show n < Kinds.cnt (encG G'); rwa [cnt_enc])]
end Sx
end Go.Proofs.Yteklnfajpignoaa
