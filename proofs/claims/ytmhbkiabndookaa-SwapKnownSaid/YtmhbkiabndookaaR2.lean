/- What is proved: plays of two swaps as rows of cells. No condition. -/
import Derived.Test.YtmhbkiabndookaaR1
namespace Go.Proofs.Ytmhbkiabndookaa
open Go.RowKit

def Lg.cells (l : Lg) : Array Value := #[.int .i64 l.made, .int .i64 l.spent, .int .i64 l.by_]
def Py.cells (p : Py) : Array Value := #[.int .i64 p.t.base, .int .i64 p.t.ppm, .int .i64 p.t.reserve, .int .i64 p.t.least, .int .i64 p.t.most, .int .i64 p.t.depth, .int .i64 p.t.delay, .int .i64 p.t.lag, .int .i64 p.t.fast, .int .i64 p.now, .int .i64 p.s0.d.id, .int .i64 p.s0.d.role, .int .i64 p.s0.d.px, .int .i64 p.s0.d.py, .int .i64 p.s0.d.pz, .int .i64 p.s0.d.gx, .int .i64 p.s0.d.gy, .int .i64 p.s0.d.gz, .int .u8 (p.s0.d.h 0), .int .u8 (p.s0.d.h 1), .int .u8 (p.s0.d.h 2), .int .u8 (p.s0.d.h 3), .int .u8 (p.s0.d.h 4), .int .u8 (p.s0.d.h 5), .int .u8 (p.s0.d.h 6), .int .u8 (p.s0.d.h 7), .int .u8 (p.s0.d.h 8), .int .u8 (p.s0.d.h 9), .int .u8 (p.s0.d.h 10), .int .u8 (p.s0.d.h 11), .int .u8 (p.s0.d.h 12), .int .u8 (p.s0.d.h 13), .int .u8 (p.s0.d.h 14), .int .u8 (p.s0.d.h 15), .int .u8 (p.s0.d.h 16), .int .u8 (p.s0.d.h 17), .int .u8 (p.s0.d.h 18), .int .u8 (p.s0.d.h 19), .int .u8 (p.s0.d.h 20), .int .u8 (p.s0.d.h 21), .int .u8 (p.s0.d.h 22), .int .u8 (p.s0.d.h 23), .int .u8 (p.s0.d.h 24), .int .u8 (p.s0.d.h 25), .int .u8 (p.s0.d.h 26), .int .u8 (p.s0.d.h 27), .int .u8 (p.s0.d.h 28), .int .u8 (p.s0.d.h 29), .int .u8 (p.s0.d.h 30), .int .u8 (p.s0.d.h 31), .int .i64 p.s0.d.peer, .int .i64 p.s0.st, .bool p.s0.kn, .int .u8 (p.s0.se 0), .int .u8 (p.s0.se 1), .int .u8 (p.s0.se 2), .int .u8 (p.s0.se 3), .int .u8 (p.s0.se 4), .int .u8 (p.s0.se 5), .int .u8 (p.s0.se 6), .int .u8 (p.s0.se 7), .int .u8 (p.s0.se 8), .int .u8 (p.s0.se 9), .int .u8 (p.s0.se 10), .int .u8 (p.s0.se 11), .int .u8 (p.s0.se 12), .int .u8 (p.s0.se 13), .int .u8 (p.s0.se 14), .int .u8 (p.s0.se 15), .int .u8 (p.s0.se 16), .int .u8 (p.s0.se 17), .int .u8 (p.s0.se 18), .int .u8 (p.s0.se 19), .int .u8 (p.s0.se 20), .int .u8 (p.s0.se 21), .int .u8 (p.s0.se 22), .int .u8 (p.s0.se 23), .int .u8 (p.s0.se 24), .int .u8 (p.s0.se 25), .int .u8 (p.s0.se 26), .int .u8 (p.s0.se 27), .int .u8 (p.s0.se 28), .int .u8 (p.s0.se 29), .int .u8 (p.s0.se 30), .int .u8 (p.s0.se 31), .int .i64 p.s1.d.id, .int .i64 p.s1.d.role, .int .i64 p.s1.d.px, .int .i64 p.s1.d.py, .int .i64 p.s1.d.pz, .int .i64 p.s1.d.gx, .int .i64 p.s1.d.gy, .int .i64 p.s1.d.gz, .int .u8 (p.s1.d.h 0), .int .u8 (p.s1.d.h 1), .int .u8 (p.s1.d.h 2), .int .u8 (p.s1.d.h 3), .int .u8 (p.s1.d.h 4), .int .u8 (p.s1.d.h 5), .int .u8 (p.s1.d.h 6), .int .u8 (p.s1.d.h 7), .int .u8 (p.s1.d.h 8), .int .u8 (p.s1.d.h 9), .int .u8 (p.s1.d.h 10), .int .u8 (p.s1.d.h 11), .int .u8 (p.s1.d.h 12), .int .u8 (p.s1.d.h 13), .int .u8 (p.s1.d.h 14), .int .u8 (p.s1.d.h 15), .int .u8 (p.s1.d.h 16), .int .u8 (p.s1.d.h 17), .int .u8 (p.s1.d.h 18), .int .u8 (p.s1.d.h 19), .int .u8 (p.s1.d.h 20), .int .u8 (p.s1.d.h 21), .int .u8 (p.s1.d.h 22), .int .u8 (p.s1.d.h 23), .int .u8 (p.s1.d.h 24), .int .u8 (p.s1.d.h 25), .int .u8 (p.s1.d.h 26), .int .u8 (p.s1.d.h 27), .int .u8 (p.s1.d.h 28), .int .u8 (p.s1.d.h 29), .int .u8 (p.s1.d.h 30), .int .u8 (p.s1.d.h 31), .int .i64 p.s1.d.peer, .int .i64 p.s1.st, .bool p.s1.kn, .int .u8 (p.s1.se 0), .int .u8 (p.s1.se 1), .int .u8 (p.s1.se 2), .int .u8 (p.s1.se 3), .int .u8 (p.s1.se 4), .int .u8 (p.s1.se 5), .int .u8 (p.s1.se 6), .int .u8 (p.s1.se 7), .int .u8 (p.s1.se 8), .int .u8 (p.s1.se 9), .int .u8 (p.s1.se 10), .int .u8 (p.s1.se 11), .int .u8 (p.s1.se 12), .int .u8 (p.s1.se 13), .int .u8 (p.s1.se 14), .int .u8 (p.s1.se 15), .int .u8 (p.s1.se 16), .int .u8 (p.s1.se 17), .int .u8 (p.s1.se 18), .int .u8 (p.s1.se 19), .int .u8 (p.s1.se 20), .int .u8 (p.s1.se 21), .int .u8 (p.s1.se 22), .int .u8 (p.s1.se 23), .int .u8 (p.s1.se 24), .int .u8 (p.s1.se 25), .int .u8 (p.s1.se 26), .int .u8 (p.s1.se 27), .int .u8 (p.s1.se 28), .int .u8 (p.s1.se 29), .int .u8 (p.s1.se 30), .int .u8 (p.s1.se 31), .int .i64 p.l0.made, .int .i64 p.l0.spent, .int .i64 p.l0.by_, .int .i64 p.l1.made, .int .i64 p.l1.spent, .int .i64 p.l1.by_, .bool p.shown]
section
variable (p : Py) (l : Lg) (s : S) (v : Int) (b : Bool)
theorem p_size : p.cells.size = 167 := by kernel_rfl
theorem p_one : ones p.cells = true := by kernel_rfl
theorem p_whole : sub p.cells 0 167 = p.cells := by kernel_rfl
theorem p_terms : sub p.cells 0 9 = p.t.cells := by kernel_rfl
theorem p_s0 : sub p.cells 10 75 = p.s0.cells := by kernel_rfl
theorem p_s1 : sub p.cells 85 75 = p.s1.cells := by kernel_rfl
theorem p_l0 : sub p.cells 160 3 = p.l0.cells := by kernel_rfl
theorem p_l1 : sub p.cells 163 3 = p.l1.cells := by kernel_rfl
theorem p_set9 : p.cells.setIfInBounds 9 (.int .i64 v) = Py.cells { p with now := v } := by kernel_rfl
theorem p_set166 : p.cells.setIfInBounds 166 (.bool b) = Py.cells { p with shown := b } := by kernel_rfl
theorem p_over0 : over p.cells 10 s.cells.toList = Py.cells { p with s0 := s } := by kernel_rfl
theorem p_over1 : over p.cells 85 s.cells.toList = Py.cells { p with s1 := s } := by kernel_rfl
theorem p_over2 : over p.cells 160 l.cells.toList = Py.cells { p with l0 := l } := by kernel_rfl
theorem p_over3 : over p.cells 163 l.cells.toList = Py.cells { p with l1 := l } := by kernel_rfl
theorem l_size : l.cells.size = 3 := rfl
theorem l_one : ones l.cells = true := by kernel_rfl
theorem l_whole : sub l.cells 0 3 = l.cells := rfl
theorem l_0 : l.cells[0]? = some (.int .i64 l.made) := rfl
theorem l_1 : l.cells[1]? = some (.int .i64 l.spent) := rfl
theorem l_2 : l.cells[2]? = some (.int .i64 l.by_) := rfl
theorem l_set0 : l.cells.setIfInBounds 0 (.int .i64 v) = Lg.cells { l with made := v } := rfl
theorem l_set1 : l.cells.setIfInBounds 1 (.int .i64 v) = Lg.cells { l with spent := v } := rfl
theorem l_set2 : l.cells.setIfInBounds 2 (.int .i64 v) = Lg.cells { l with by_ := v } := rfl
theorem p_9 : p.cells[9]? = some (.int .i64 p.now) := by kernel_rfl
theorem p_14 : p.cells[14]? = some (.int .i64 p.s0.d.pz) := by kernel_rfl
theorem p_89 : p.cells[89]? = some (.int .i64 p.s1.d.pz) := by kernel_rfl
theorem p_51 : p.cells[51]? = some (.int .i64 p.s0.st) := by kernel_rfl
theorem p_126 : p.cells[126]? = some (.int .i64 p.s1.st) := by kernel_rfl
theorem p_160 : p.cells[160]? = some (.int .i64 p.l0.made) := by kernel_rfl
theorem p_161 : p.cells[161]? = some (.int .i64 p.l0.spent) := by kernel_rfl
theorem p_162 : p.cells[162]? = some (.int .i64 p.l0.by_) := by kernel_rfl
theorem p_163 : p.cells[163]? = some (.int .i64 p.l1.made) := by kernel_rfl
theorem p_164 : p.cells[164]? = some (.int .i64 p.l1.spent) := by kernel_rfl
theorem p_165 : p.cells[165]? = some (.int .i64 p.l1.by_) := by kernel_rfl
theorem p_166 : p.cells[166]? = some (.bool p.shown) := by kernel_rfl
theorem p_9g (h : 9 < Array.size p.cells) : (p.cells)[9]'h = .int .i64 p.now := Option.some.inj ((Array.getElem?_eq_getElem h).symm.trans (p_9 p))
theorem p_14g (h : 14 < Array.size p.cells) : (p.cells)[14]'h = .int .i64 p.s0.d.pz := Option.some.inj ((Array.getElem?_eq_getElem h).symm.trans (p_14 p))
theorem p_89g (h : 89 < Array.size p.cells) : (p.cells)[89]'h = .int .i64 p.s1.d.pz := Option.some.inj ((Array.getElem?_eq_getElem h).symm.trans (p_89 p))
theorem p_51g (h : 51 < Array.size p.cells) : (p.cells)[51]'h = .int .i64 p.s0.st := Option.some.inj ((Array.getElem?_eq_getElem h).symm.trans (p_51 p))
theorem p_126g (h : 126 < Array.size p.cells) : (p.cells)[126]'h = .int .i64 p.s1.st := Option.some.inj ((Array.getElem?_eq_getElem h).symm.trans (p_126 p))
theorem p_160g (h : 160 < Array.size p.cells) : (p.cells)[160]'h = .int .i64 p.l0.made := Option.some.inj ((Array.getElem?_eq_getElem h).symm.trans (p_160 p))
theorem p_161g (h : 161 < Array.size p.cells) : (p.cells)[161]'h = .int .i64 p.l0.spent := Option.some.inj ((Array.getElem?_eq_getElem h).symm.trans (p_161 p))
theorem p_162g (h : 162 < Array.size p.cells) : (p.cells)[162]'h = .int .i64 p.l0.by_ := Option.some.inj ((Array.getElem?_eq_getElem h).symm.trans (p_162 p))
theorem p_163g (h : 163 < Array.size p.cells) : (p.cells)[163]'h = .int .i64 p.l1.made := Option.some.inj ((Array.getElem?_eq_getElem h).symm.trans (p_163 p))
theorem p_164g (h : 164 < Array.size p.cells) : (p.cells)[164]'h = .int .i64 p.l1.spent := Option.some.inj ((Array.getElem?_eq_getElem h).symm.trans (p_164 p))
theorem p_165g (h : 165 < Array.size p.cells) : (p.cells)[165]'h = .int .i64 p.l1.by_ := Option.some.inj ((Array.getElem?_eq_getElem h).symm.trans (p_165 p))
theorem p_166g (h : 166 < Array.size p.cells) : (p.cells)[166]'h = .bool p.shown := Option.some.inj ((Array.getElem?_eq_getElem h).symm.trans (p_166 p))
theorem l_0g (h : 0 < Array.size l.cells) : (l.cells)[0]'h = .int .i64 l.made := Option.some.inj ((Array.getElem?_eq_getElem h).symm.trans (l_0 l))
theorem l_1g (h : 1 < Array.size l.cells) : (l.cells)[1]'h = .int .i64 l.spent := Option.some.inj ((Array.getElem?_eq_getElem h).symm.trans (l_1 l))
theorem l_2g (h : 2 < Array.size l.cells) : (l.cells)[2]'h = .int .i64 l.by_ := Option.some.inj ((Array.getElem?_eq_getElem h).symm.trans (l_2 l))
end
attribute [go_sem ↓] p_9 p_14 p_89 p_51 p_126 p_160 p_161 p_162 p_163 p_164 p_165 p_166 l_0 l_1 l_2
attribute [go_sem] p_size p_one p_whole p_terms p_s0 p_s1 p_l0 p_l1 p_set9 p_set166 p_over0 p_over1 p_over2 p_over3 l_size l_one l_whole l_set0 l_set1 l_set2 p_9g p_14g p_89g p_51g p_126g p_160g p_161g p_162g p_163g p_164g p_165g p_166g l_0g l_1g l_2g
end Go.Proofs.Ytmhbkiabndookaa
