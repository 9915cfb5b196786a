/- States of a multiplexer as plain values. -/
import Derived.Test.YtaepllhjnbencaaGreatDoorMuOwn
import Derived.Test.YtaepllhjnbencaaGreatDoorMuLay
set_option linter.unusedVariables false
namespace Mu
abbrev ui (n : Int) : U := .int .i64 n
structure Lnk where
  ix : Int
  win : Int
deriving DecidableEq
structure Sess where
  id : Int
  name : List Nat
  links : List Lnk
  cur : Int
  last : Int
structure Win where
  id : Int
  name : List Nat
  cells : List Cell
  act : Int
  last : Int
  zoom : Bool
structure State where
  ss : List Sess
  ws : List Win
def encLnk (l : Lnk) : List U := [ui l.ix, ui l.win]
def encCell (c : Cell) : List U := [ui c.d, ui c.k, ui c.x, ui c.y, ui c.w, ui c.h, ui c.p]
def encSess (s : Sess) : List U := [ui s.id, .str s.name, .lst 2 (s.links.flatMap encLnk), ui s.cur, ui s.last]
def encWin (w : Win) : List U := [ui w.id, .str w.name, .lst 7 (w.cells.flatMap encCell), ui w.act, ui w.last, .bool w.zoom]
def encState (s : State) : List U := [.lst 5 (s.ss.flatMap encSess), .lst 6 (s.ws.flatMap encWin)]
theorem encLnk_len (l : Lnk) : (encLnk l).length = 2 := rfl
theorem encCell_len (l : Cell) : (encCell l).length = 7 := rfl
theorem encSess_len (l : Sess) : (encSess l).length = 5 := rfl
theorem encWin_len (l : Win) : (encWin l).length = 6 := rfl
/-- no more than what lies in a process's memory -/
structure State.Fits (s : State) : Prop where
  ss : s.ss.length * 64 ≤ 140737488351232
  ws : s.ws.length * 72 ≤ 140737488351232
  links : ∀ x ∈ s.ss, x.links.length * 16 ≤ 140737488351232
  cells : ∀ x ∈ s.ws, x.cells.length * 56 ≤ 140737488351232
theorem RL.sess {I : Fz} {c : List V} {s : Sess} (h : RL I c (encSess s)) : ∃ vl, c = [vi s.id, .str s.name, vl, vi s.cur, vi s.last] ∧ R' I vl (.lst 2 (s.links.flatMap encLnk)) := by
  obtain ⟨v1, r1, rfl, h1, k1⟩ := RL.cons h
  obtain ⟨v2, r2, rfl, h2, k2⟩ := RL.cons k1
  obtain ⟨v3, r3, rfl, h3, k3⟩ := RL.cons k2
  obtain ⟨v4, r4, rfl, h4, k4⟩ := RL.cons k3
  obtain ⟨v5, r5, rfl, h5, k5⟩ := RL.cons k4
  rw [k5.nil, h1.int, h2.str, h4.int, h5.int]
  exact ⟨v3, rfl, h3⟩
theorem RL.win {I : Fz} {c : List V} {s : Win} (h : RL I c (encWin s)) : ∃ vl, c = [vi s.id, .str s.name, vl, vi s.act, vi s.last, .bool s.zoom] ∧ R' I vl (.lst 7 (s.cells.flatMap encCell)) := by
  obtain ⟨v1, r1, rfl, h1, k1⟩ := RL.cons h
  obtain ⟨v2, r2, rfl, h2, k2⟩ := RL.cons k1
  obtain ⟨v3, r3, rfl, h3, k3⟩ := RL.cons k2
  obtain ⟨v4, r4, rfl, h4, k4⟩ := RL.cons k3
  obtain ⟨v5, r5, rfl, h5, k5⟩ := RL.cons k4
  obtain ⟨v6, r6, rfl, h6, k6⟩ := RL.cons k5
  rw [k6.nil, h1.int, h2.str, h4.int, h5.int, h6.bool]
  exact ⟨v3, rfl, h3⟩
theorem RL.lnk {I : Fz} {c : List V} {s : Lnk} (h : RL I c (encLnk s)) : c = [vi s.ix, vi s.win] := by
  obtain ⟨v1, r1, rfl, h1, k1⟩ := RL.cons h
  obtain ⟨v2, r2, rfl, h2, k2⟩ := RL.cons k1
  rw [k2.nil, h1.int, h2.int]
theorem RL.cell {I : Fz} {c : List V} {s : Cell} (h : RL I c (encCell s)) : c = cellV s := by
  obtain ⟨v1, r1, rfl, h1, k1⟩ := RL.cons h
  obtain ⟨v2, r2, rfl, h2, k2⟩ := RL.cons k1
  obtain ⟨v3, r3, rfl, h3, k3⟩ := RL.cons k2
  obtain ⟨v4, r4, rfl, h4, k4⟩ := RL.cons k3
  obtain ⟨v5, r5, rfl, h5, k5⟩ := RL.cons k4
  obtain ⟨v6, r6, rfl, h6, k6⟩ := RL.cons k5
  obtain ⟨v7, r7, rfl, h7, k7⟩ := RL.cons k6
  rw [k7.nil, h1.int, h2.int, h3.int, h4.int, h5.int, h6.int, h7.int]
  rfl
theorem RL.mkSess {I : Fz} {s : Sess} {vl : V} (h : R' I vl (.lst 2 (s.links.flatMap encLnk))) : RL I [vi s.id, .str s.name, vl, vi s.cur, vi s.last] (encSess s) := by
  simp only [encSess, RL]
  refine ⟨_, _, rfl, by simp [R'], _, _, rfl, by simp [R'], _, _, rfl, h, _, _, rfl, by simp [R'], _, _, rfl, by simp [R'], rfl⟩
theorem RL.mkWin {I : Fz} {s : Win} {vl : V} (h : R' I vl (.lst 7 (s.cells.flatMap encCell))) : RL I [vi s.id, .str s.name, vl, vi s.act, vi s.last, .bool s.zoom] (encWin s) := by
  simp only [encWin, RL]
  refine ⟨_, _, rfl, by simp [R'], _, _, rfl, by simp [R'], _, _, rfl, h, _, _, rfl, by simp [R'], _, _, rfl, by simp [R'], _, _, rfl, by simp [R'], rfl⟩
theorem R'.state {I : Fz} {v : V} {s : State} (h : R' I v (.agg (encState s))) : ∃ v1 v2, v = .agg [v1, v2] ∧ R' I v1 (.lst 5 (s.ss.flatMap encSess)) ∧ R' I v2 (.lst 6 (s.ws.flatMap encWin)) := by
  obtain ⟨vs, rfl, hh⟩ := h.agg
  obtain ⟨v1, r1, rfl, h1, k1⟩ := RL.cons hh
  obtain ⟨v2, r2, rfl, h2, k2⟩ := RL.cons k1
  rw [k2.nil]
  exact ⟨v1, v2, rfl, h1, h2⟩
theorem R'.mkState {I : Fz} {v1 v2 : V} {s : State} (h1 : R' I v1 (.lst 5 (s.ss.flatMap encSess))) (h2 : R' I v2 (.lst 6 (s.ws.flatMap encWin))) : R' I (.agg [v1, v2]) (.agg (encState s)) := by
  simp only [R', RL, encState]
  exact ⟨_, rfl, _, _, rfl, h1, _, _, rfl, h2, rfl⟩
abbrev i64ok (n : Int) : Prop := -9223372036854775808 ≤ n ∧ n < 9223372036854775808
def Lnk.Wf (l : Lnk) : Prop := i64ok l.ix ∧ i64ok l.win
def CellWf (c : Cell) : Prop := i64ok c.d ∧ i64ok c.k ∧ i64ok c.x ∧ i64ok c.y ∧ i64ok c.w ∧ i64ok c.h ∧ i64ok c.p
def strWf (s : List Nat) : Prop := ∀ c ∈ s, c < 256
structure Sess.Wf (x : Sess) : Prop where
  id : i64ok x.id
  name : strWf x.name
  links : ∀ l ∈ x.links, Lnk.Wf l
  fit : x.links.length * 16 ≤ 140737488351232
  cur : i64ok x.cur
  last : i64ok x.last
structure Win.Wf (x : Win) : Prop where
  id : i64ok x.id
  name : strWf x.name
  cells : ∀ l ∈ x.cells, CellWf l
  fit : x.cells.length * 56 ≤ 140737488351232
  act : i64ok x.act
  last : i64ok x.last
structure State.Wf (s : State) : Prop where
  ss : ∀ x ∈ s.ss, x.Wf
  ws : ∀ x ∈ s.ws, x.Wf
  fs : s.ss.length * 64 ≤ 140737488351232
  fw : s.ws.length * 72 ≤ 140737488351232
theorem State.Wf.fits {s : State} (h : s.Wf) : s.Fits := ⟨h.fs, h.fw, fun x hx => (h.ss x hx).fit, fun x hx => (h.ws x hx).fit⟩
end Mu
