/-
  slices.Sort at texts; rows of texts.
-/
import Derived.Sort.OwnSorted
import Derived.Test.YtmhadkdbonfmdaaDoorZHeadW
import Derived.Test.YtmhadkdbonfmdaaDoorZNames
namespace Go.Proofs.YtmhadkdbonfmdaaDoor
open Go Go.RowKit Go.Shelf
set_option maxRecDepth 100000

open Go.Sort
def strsV (l : Row) : List Value := l.map str
theorem length_strsV (l : Row) : (strsV l).length = l.length := by simp [strsV]
theorem strsV_at (l : Row) (i : Nat) (h : i < l.length) : (strsV l)[i]? = some (str l[i]) := by simp [strsV, h]
theorem strsV_append (l m : Row) : strsV (l ++ m) = strsV l ++ strsV m := by simp [strsV]
theorem strsV_one (l : Row) : ∀ u ∈ strsV l, u.oneCell' = true := by
  intro u hu
  simp only [strsV, List.mem_map] at hu
  obtain ⟨x, _, rfl⟩ := hu
  rfl
theorem infoStr : (Tryd.prog.info? 9).map (fun i => (i.zero, i.size, i.bytes)) = some (some (.string ⟨#[]⟩), 1, 16) := by kernel_rfl
/-- slices.Sort of texts. -/
theorem sort_any {w : World} {base : Nat} {v : Value} {l : Row} (h : w.ownsRow base 9 1 v l.length (strsV l)) (hl : l.length ≤ 100000) :
    Calls Tryd.prog 29 #[v] w fun e w' => e = .returned (.tuple #[]) ∧ w'.ownsRow base 9 1 v l.length (strsV (sortL l)) ∧ w.grownBy w' v.ownBlock := by
  rcases h.2 with ⟨rfl, h0⟩ | ⟨g, cap, cur, rfl, hbase, hb, h1, h2, h3, h4⟩
  · have hl0 : l = [] := List.eq_nil_of_length_eq_zero h0
    subst hl0
    exact (Tryd.slices_Sort_string_none none 0 w).mono fun e w' ⟨he, hw⟩ => ⟨he, by subst hw; simpa [sortL, strsV] using h, by subst hw; exact ⟨rfl, rfl, rfl, Nat.le_refl _, fun _ _ _ => rfl⟩⟩
  · have hH : Holds encStr w g 0 l.toArray := holds_of_block hb (by simpa [strsV] using h4)
    refine (Tryd.slices_Sort_string g 0 cap l w hH (Array.getElem?_eq_some_iff.1 hb).1 (by omega)).mono ?_
    rintro e w' ⟨he, n, os, rfl⟩
    refine ⟨he, ?_, grownBy_sorted _⟩
    have := ownsRow_sorted (os := os) (n := n) (ss := l) (ts := sortL l) (sortL_len l) hbase hb h1 h2 h3
    exact this
open Go.RowKit

/-- The sum of one slice of bytes, handed over in a new row. -/
theorem sum1 (W : World) (g B : Nat) (u : Value) (l : List UInt8) (hc : W.cell? ⟨g, 0, none⟩ = some u) (hu : Bytes W B u l) (hF : Fours W) :
    Calls Tryd.prog 22 #[.slice (some ⟨g, 0, none⟩) 1 1] W fun e w' => e = .returned (.int .i64 (sums 4294967295 l ^^^ 4294967295 : Nat)) ∧ W = w' := by
  have hg : g < W.heap.size := World.block_lt_of_cell? W _ hc
  have hs : Sl W W.heap.size 1 (.slice (some ⟨g, 0, none⟩) 1 1) 1 [u] := Sl.mk_ (Nat.le_refl _) (by decide) rfl hg fun j x hx => by
    rcases j with _ | j
    · simp only [List.getElem?_cons_zero, Option.some.injEq] at hx; subst hx; exact hc
    · simp at hx
  have h := sum_any W (max B W.heap.size) (.slice (some ⟨g, 0, none⟩) 1 1) [u] [l] (hs.more (by omega)) (fun i hi => by
    obtain rfl : i = 0 := by simpa using hi
    exact ⟨u, rfl, hu.more (by omega)⟩) (by simp [maxLen]) (by simpa using hu.le) hF
  simpa using h
end Go.Proofs.YtmhadkdbonfmdaaDoor
