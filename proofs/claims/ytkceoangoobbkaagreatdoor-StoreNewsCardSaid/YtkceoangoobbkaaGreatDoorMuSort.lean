/- The library's sort of ints, as the small code wants it. -/
import Derived.Test.YtkceoangoobbkaaGreatDoorMuIds
import Derived.Shelf.Sort.Plain
set_option linter.unusedVariables false
set_option linter.unusedSimpArgs false
namespace Mu
open Go (Value World Addr Program IntKind Sem Result Obj TypeDesc TypeInfo Operand Oper Ending Calls Act Exit Code)

theorem sortI_mergeSort (zs : List Int) : sortI zs = zs.mergeSort fun x y => decide (x ≤ y) := by
  refine perm_sorted_eq ((sortI_perm zs).trans (List.mergeSort_perm _ _).symm) (sortI_sorted zs) ?_
  have := List.pairwise_mergeSort (le := fun x y : Int => decide (x ≤ y)) (by intro a b c; simp; omega) (by intro a b; simp; omega) zs
  exact this.imp fun h => by simpa using h

theorem sort_some {P : Program} {sf : Nat}
    (hI : ∀ (blk off cap : Nat) (zs : List Int) (w : World), Go.Sort.Holds (Value.int .i64) w blk off zs.toArray → blk < w.heap.size → zs.length < 4611686018427387904 →
      Calls P sf #[.slice (some ⟨blk, off, none⟩) zs.length cap] w fun e w' => e = .returned (.tuple #[]) ∧ ∃ n os, w' = Go.Sort.grow (Go.Sort.putRow (Value.int .i64) (Go.Sort.ahead w n) blk off (zs.mergeSort fun x y => decide (x ≤ y)).toArray) os)
    (blk off cap : Nat) (zs : List Int) (w : World) (arr : Array Value) (e : Nat) (hb : w.heap[blk]? = some (.cells arr e (0, 0))) (hlen : off + zs.length ≤ arr.size) (h12 : zs.length ≤ 12) (hc : ∀ (i : Nat) (z : Int), zs[i]? = some z → arr[off + i]? = some (.int .i64 z)) :
    Calls P sf #[.slice (some ⟨blk, off, none⟩) zs.length cap] w fun en w' => en = .returned (.tuple #[]) ∧ Still w w' 0 ∧ (∀ r, r < w.heap.size → r ≠ blk → w'.heap[r]? = w.heap[r]?) ∧
      ∃ arr', w'.heap[blk]? = some (.cells arr' e (0, 0)) ∧ arr'.size = arr.size ∧ ∀ (i : Nat) (z : Int), (sortI zs)[i]? = some z → arr'[off + i]? = some (.int .i64 z) := by
  have hblk : blk < w.heap.size := by
    rcases Nat.lt_or_ge blk w.heap.size with h | h
    · exact h
    · simp [Array.getElem?_eq_none h] at hb
  refine Calls.mono (hI blk off cap zs w (fun j hj => ⟨?_, ?_⟩) hblk (by omega)) ?_
  · simp only [List.size_toArray] at hj
    have := hc j zs[j] (List.getElem?_eq_getElem hj)
    simp [World.cell?, hb, this, hj]
  · simp [World.frozen?, hb]
  · rintro en w' ⟨rfl, n, os, rfl⟩
    have hs : (zs.mergeSort fun x y => decide (x ≤ y)).length = zs.length := List.length_mergeSort _
    refine ⟨rfl, ⟨rfl, rfl, rfl, by simp [Go.Sort.grow, Go.Sort.putRow, Go.Sort.mapBlock, Go.Sort.ahead], fun r hr => by omega⟩, fun r hr hne => ?_, ?_⟩
    · rw [Go.Sort.heap_grow_old _ _ (by simp [Go.Sort.putRow, Go.Sort.mapBlock, Go.Sort.ahead]; exact hr)]
      simp only [Go.Sort.putRow, Go.Sort.mapBlock, Go.Sort.ahead, Array.getElem?_modify]
      rw [if_neg (Ne.symm hne)]
    · refine ⟨Go.Sort.putCells (Value.int .i64) off (zs.mergeSort fun x y => decide (x ≤ y)).toArray arr, ?_, by simp [Go.Sort.putCells], fun i z hz => ?_⟩
      · rw [Go.Sort.heap_grow_old _ _ (by simp [Go.Sort.putRow, Go.Sort.mapBlock, Go.Sort.ahead]; exact hblk)]
        simp only [Go.Sort.putRow, Go.Sort.mapBlock, Go.Sort.ahead, Array.getElem?_modify]
        rw [if_pos trivial, hb]
        rfl
      · rw [sortI_mergeSort] at hz
        have hi : i < zs.length := by rw [← hs]; exact (List.getElem?_eq_some_iff.1 hz).1
        simp only [Go.Sort.putCells, Array.getElem?_mapIdx, Array.getElem?_eq_getElem (show off + i < arr.size by omega), Option.map_some, List.size_toArray, hs]
        rw [if_pos (by omega), show off + i - off = i by omega]
        congr 2
        simp [hz]
end Mu
