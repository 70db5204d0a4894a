/- What is proved: plain laws on floats: products, quotients and sums of rates, as the model's operations give them; no program in sight. No condition. -/
import Derived.Test.YtiancafoipllbaaFD
namespace Go.Proofs.Ytiancafoipllbaa
namespace Fl
open Ieee

theorem read_NEG : double.read NEG = .number true 0 (-1074) := by rw [read_eq]; decide
theorem read_pw {w : Nat} (h : w < INF) : double.read w = .number false (Mw w) (Pw w) := read_fin h
theorem W6_lt : W6 < INF := by decide
theorem NEG_ge : INF < NEG := by decide
/-- The product of a rate and a float that is no less than nought. -/
def mulW (r f : Nat) : Nat := if r = NEG then NEG else near (Mw r * Mw f) (Pw r + Pw f)
theorem mul_bits {r f : Nat} (hr : r < INF ∨ r = NEG) (hf : f < INF) : floatBits .mul .f64 r f = some (mulW r f) := by
  show (((double.read r).product (double.read f)).map double.write) = _
  rw [read_fin hf]
  unfold mulW
  by_cases h : r = NEG
  · rw [if_pos h, h, read_NEG]
    show some (double.nearest true (0 * Mw f) _) = _
    rw [Nat.zero_mul, nearest_neg0]
  · have hr := hr.resolve_right h
    rw [if_neg h, read_fin hr]
    show some (double.nearest false (Mw r * Mw f) (Pw r + Pw f)) = _
    rw [nearest_eq]
theorem Le.mul {a b c d : Nat} {p q r s : Int} (h1 : Le a p b q) (h2 : Le c r d s) : Le (a * c) (p + r) (b * d) (q + s) := by
  refine Le.of (e1 := (p - min p q).toNat + (r - min r s).toNat) (e2 := (q - min p q).toNat + (s - min r s).toNat) (by omega) ?_
  have := Nat.mul_le_mul h1 h2
  rw [Nat.pow_add, Nat.pow_add]
  have e : ∀ x y z u : Nat, x * y * (z * u) = x * z * (y * u) := fun x y z u => Nat.mul_mul_mul_comm x y z u
  rw [e a, e b]
  exact this
theorem Le_words {a b : Nat} (h : a ≤ b) : Le (Mw a) (Pw a) (Mw b) (Pw b) :=
  Le.of (e1 := Ew a) (e2 := Ew b) (by unfold Pw; omega) (U_le_iff.2 h)
theorem mulW_mono {r s f g : Nat} (hr : r ≠ NEG) (hs : s ≠ NEG) (h1 : r ≤ s) (h2 : f ≤ g) : mulW r f ≤ mulW s g := by
  unfold mulW
  rw [if_neg hr, if_neg hs]
  exact near_mono ((Le_words h1).mul (Le_words h2))
theorem mulW_NEG (f : Nat) : mulW NEG f = NEG := if_pos rfl
/-- The greatest fee, as a float. -/
def TOP : Nat := mulW W6 (fN 1048576)
theorem TOP_eq : TOP = 4786909139232096256 := by decide +kernel
theorem TOP_lt : TOP < INF := by rw [TOP_eq]; decide
theorem up_TOP : up TOP = 1048576000000 := by rw [TOP_eq]; decide +kernel
theorem okW_ne {r : Nat} (h : r ≤ W6) : r ≠ NEG := fun e => by rw [e] at h; exact absurd h (by decide)
theorem fN_mono {a b : Nat} (h : a ≤ b) : fN a ≤ fN b := near_mono (Le.of (e1 := 0) (e2 := 0) rfl (by omega))
theorem mulW_top {r n : Nat} (hr : r ≤ W6) (hn : n ≤ 1048576) : mulW r (fN n) ≤ TOP := mulW_mono (okW_ne hr) (okW_ne (Nat.le_refl _)) hr (fN_mono hn)
theorem up_top {r n : Nat} (hr : r ≤ W6) (hn : n ≤ 1048576) : up (mulW r (fN n)) ≤ 1048576000000 := by
  rw [← up_TOP]
  exact up_mono (mulW_top hr hn)
/-- What a weight pays at a rate. -/
def feeN (r n : Nat) : Nat := if r = NEG then 0 else up (mulW r (fN n))
theorem feeN_le {r n : Nat} (hr : okW r) (hn : n ≤ 1048576) : feeN r n ≤ 1048576000000 := by
  unfold feeN
  split
  · omega
  · rename_i h
    exact up_top (hr.resolve_right h) hn
/-- Whole numbers as floats; and back. -/
theorem fN_int (n : Nat) : floatOfInt .f64 (n : Int) = fN n := by
  show double.nearest (decide ((n : Int) < 0)) ((n : Int).natAbs) 0 = near n 0
  rw [decide_eq_false (by omega), Int.natAbs_natCast, nearest_eq]
theorem toInt_fN {n : Nat} (h : n < 2 * B) : floatToIntVal .f64 (fN n) .i64 = some (n : Int) := by
  have hr : double.read (fN n) = .number false (Mw (fN n)) (Pw (fN n)) := read_fin (fN_lt h)
  have h1 : (double.read (fN n)).toInt .zero = some (n : Int) := by
    rw [hr]
    show some (signed false (Toward.zero.cut false (Mw (fN n) <<< (Pw (fN n)).toNat) (-(Pw (fN n))).toNat) 0) = _
    rw [cut_zero, dn_eq, dn_fN h]
    rfl
  have hb : (2 : Nat) * B = 9007199254740992 := by decide
  show (match (double.read (fN n)).toInt .zero with | some n => if IntKind.min .i64 ≤ n ∧ n ≤ IntKind.max .i64 then some n else none | none => none) = _
  rw [h1]
  show (if (-9223372036854775808 : Int) ≤ n ∧ (n : Int) ≤ 9223372036854775807 then some (n : Int) else none) = _
  rw [if_pos (by omega)]
theorem toInt_NEG : floatToIntVal .f64 NEG .i64 = some 0 := by decide +kernel
/-- Up and down, as the model's machine instructions give them. -/
theorem ceil_fin {p : Nat} (h : p < INF) : double.write ((double.read p).integral .up) = fN (up p) := by
  rw [read_fin h]
  show double.nearest false (Toward.up.cut false (Mw p <<< (Pw p).toNat) (-(Pw p)).toNat) 0 = _
  rw [cut_up, up_eq, nearest_eq]
  rfl
theorem floor_fin {p : Nat} (h : p < INF) : double.write ((double.read p).integral .down) = fN (dn p) := by
  rw [read_fin h]
  show double.nearest false (Toward.down.cut false (Mw p <<< (Pw p).toNat) (-(Pw p)).toNat) 0 = _
  rw [cut_down, dn_eq, nearest_eq]
  rfl
theorem ceil_NEG : double.write ((double.read NEG).integral .up) = NEG := by rw [read_NEG]; decide +kernel
theorem floor_NEG : double.write ((double.read NEG).integral .down) = NEG := by rw [read_NEG]; decide +kernel
/-- The document's way: down, and one more if that is less. -/
theorem up_of_dn {p : Nat} (h : up p < 2 * B) (hp : p < INF) : dn p + (if ltB (fN (dn p)) p then 1 else 0) = up p := by
  have hd := up_dn p
  have hle : dn p ≤ up p := by omega
  simp only [ltB_fin (fN_lt (show dn p < 2 * B by omega)) hp, decide_eq_true_eq]
  have : fN (dn p) < p ↔ dn p * ONE < U p := by rw [← U_lt_iff, fN_U (by omega)]
  by_cases hc : dn p * ONE < U p
  · rw [if_pos (this.2 hc)]; rw [if_pos hc] at hd; exact hd.symm
  · rw [if_neg (fun h => hc (this.1 h))]; rw [if_neg hc] at hd; exact hd.symm
/-- The rate that a fee is of a weight. -/
def quoN (m n : Nat) (i j : Int) : Nat × Int := (2 * ((m <<< (54 + n.log2 - m.log2)) / n) + ((m <<< (54 + n.log2 - m.log2)) % n != 0).toNat, i - j - ((54 + n.log2 - m.log2 : Nat) : Int) - 1)
def divW (a b : Nat) : Nat := near (quoN (Mw a) (Mw b) (Pw a) (Pw b)).1 (quoN (Mw a) (Mw b) (Pw a) (Pw b)).2
theorem div_bits {a b : Nat} (ha : a < INF) (hb : b < INF) (h0 : Mw b ≠ 0) : floatBits .quo .f64 a b = some (divW a b) := by
  show (((double.read a).quotient 54 (double.read b)).map double.write) = _
  rw [read_pw ha, read_pw hb]
  have : (Datum.number false (Mw a) (Pw a)).quotient 54 (.number false (Mw b) (Pw b)) = some (.number false (quoN (Mw a) (Mw b) (Pw a) (Pw b)).1 (quoN (Mw a) (Mw b) (Pw a) (Pw b)).2) := by
    show (if Mw b = 0 then _ else _) = _
    rw [if_neg h0]
    rfl
  rw [this]
  show some (double.nearest false _ _) = _
  rw [nearest_eq]
  rfl
/-- A sum with a float above nought. -/
def addW (a b : Nat) : Nat := if a = NEG then b else near (Mw a <<< (Pw a - min (Pw a) (Pw b)).toNat + Mw b <<< (Pw b - min (Pw a) (Pw b)).toNat) (min (Pw a) (Pw b))
theorem nearest_own {a : Nat} (h : a < INF) : near (Mw a <<< (Pw a - min (-1074) (Pw a)).toNat) (min (-1074) (Pw a)) = a := by
  have e : near (Mw a <<< (Pw a - min (-1074) (Pw a)).toNat) (min (-1074) (Pw a)) = near (Mw a) (Pw a) := by
    rw [Nat.shiftLeft_eq]
    have hm : min (-1074) (Pw a) = -1074 := by unfold Pw; omega
    have hE : (Pw a - -1074).toNat = Ew a := by unfold Pw; omega
    rw [hm, hE]
    apply Nat.le_antisymm
    · exact near_mono (Le.of (e1 := 0) (e2 := Ew a) (by unfold Pw; omega) (by rw [Nat.pow_zero, Nat.mul_one]; exact Nat.le_refl _))
    · exact near_mono (Le.of (e1 := Ew a) (e2 := 0) (by unfold Pw; omega) (by rw [Nat.pow_zero, Nat.mul_one]; exact Nat.le_refl _))
  rw [e, near_exact h]
theorem sum_pos (s : Bool) (m n : Nat) (i j : Int) (hn : n ≠ 0) (hs : s = true → m = 0) :
    ((Datum.number s m i).sum (.number false n j)).map double.write = some (near (m <<< (i - min i j).toNat + n <<< (j - min i j).toNat) (min i j)) := by
  have hpos : n <<< (j - min i j).toNat ≠ 0 := by rw [Nat.shiftLeft_eq]; exact Nat.ne_of_gt (Nat.mul_pos (Nat.pos_of_ne_zero hn) (pow_pos' _))
  have h1 : signed s m (i - min i j).toNat = ((m <<< (i - min i j).toNat : Nat) : Int) := by
    cases s with
    | false => rfl
    | true => rw [hs rfl, Nat.zero_shiftLeft]; unfold signed; simp
  have h2 : signed false n (j - min i j).toNat = ((n <<< (j - min i j).toNat : Nat) : Int) := rfl
  show some (double.write (.number (if signed s m (i - min i j).toNat + signed false n (j - min i j).toNat = 0 then s && false else decide (signed s m (i - min i j).toNat + signed false n (j - min i j).toNat < 0)) (signed s m (i - min i j).toNat + signed false n (j - min i j).toNat).natAbs (min i j))) = _
  rw [h1, h2]
  generalize m <<< (i - min i j).toNat = x
  generalize n <<< (j - min i j).toNat = y at hpos
  rw [if_neg (by omega), decide_eq_false (by omega)]
  show some (double.nearest false ((x : Int) + (y : Int)).natAbs (min i j)) = _
  rw [nearest_eq, show ((x : Int) + (y : Int)).natAbs = x + y by omega]
theorem add_bits {a b : Nat} (ha : a < INF ∨ a = NEG) (hb : b < INF) (h0 : Mw b ≠ 0) : floatBits .add .f64 a b = some (addW a b) := by
  show (((double.read a).sum (double.read b)).map double.write) = _
  rw [read_pw hb]
  unfold addW
  by_cases h : a = NEG
  · rw [if_pos h, h, read_NEG, sum_pos true 0 (Mw b) (-1074) (Pw b) h0 (fun _ => rfl), Nat.zero_shiftLeft, Nat.zero_add, nearest_own hb]
  · have ha := ha.resolve_right h
    rw [if_neg h, read_pw ha, sum_pos false (Mw a) (Mw b) (Pw a) (Pw b) h0 (fun h => by cases h)]
end Fl
end Go.Proofs.Ytiancafoipllbaa
