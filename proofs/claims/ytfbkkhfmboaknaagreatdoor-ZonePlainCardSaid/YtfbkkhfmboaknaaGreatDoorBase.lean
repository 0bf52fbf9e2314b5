/-
  Words for memory that all proofs of this family share: a slice value that reads as a list of cells, and how that is kept while other memory turns.
-/
import Derived.WalkKit
import Derived.Lib.Hide
namespace Go.Proofs.YtfbkkhfmboaknaaGreatDoor
open Go Go.RowKit

theorem ret_int {k : IntKind} {a b : Int} (h : a = b) : Ending.returned (.int k a) = .returned (.int k b) := by rw [h]
theorem ret_bool {a b : Bool} (h : a = b) : Ending.returned (.bool a) = .returned (.bool b) := by rw [h]

/-- The slice value v has n elements of sz cells each, lies below block B (where it has an element), and its cells are xs. -/
def Sl (w : World) (B sz : Nat) (v : Value) (n : Nat) (xs : List Value) : Prop :=
  ∃ A c, v = .slice A n c ∧ n ≤ c ∧ c ≤ maxLen ∧ xs.length = n * sz ∧ (0 < n → ∃ b o, A = some ⟨b, o, none⟩ ∧ b < B ∧ ∀ j u, xs[j]? = some u → w.cell? ⟨b, o + j, none⟩ = some u)

section
variable {w w' : World} {B B' sz n : Nat} {v : Value} {xs : List Value}
theorem Sl.nil (w : World) (B sz : Nat) : Sl w B sz (.slice none 0 0) 0 [] := ⟨_, _, rfl, Nat.le_refl _, by decide, by simp, fun h => absurd h (by omega)⟩
theorem Sl.len (h : Sl w B sz v n xs) : xs.length = n * sz := h.choose_spec.choose_spec.2.2.2.1
theorem Sl.le (h : Sl w B sz v n xs) : n ≤ maxLen := Nat.le_trans h.choose_spec.choose_spec.2.1 h.choose_spec.choose_spec.2.2.1
theorem Sl.form (h : Sl w B sz v n xs) : ∃ A c, v = .slice A n c := ⟨_, _, h.choose_spec.choose_spec.1⟩
theorem Sl.keep (h : Sl w B sz v n xs) (hk : ∀ p : Addr, p.block < B → w'.cell? p = w.cell? p) : Sl w' B sz v n xs := by
  obtain ⟨A, c, rfl, h1, h2, hl, hc⟩ := h
  refine ⟨A, c, rfl, h1, h2, hl, fun hn => ?_⟩
  obtain ⟨b, o, rfl, hb, hc⟩ := hc hn
  exact ⟨b, o, rfl, hb, fun j u hu => (hk _ hb).trans (hc j u hu)⟩
theorem Sl.more (h : Sl w B sz v n xs) (hB : B ≤ B') : Sl w B' sz v n xs := by
  obtain ⟨A, c, rfl, h1, h2, hl, hc⟩ := h
  refine ⟨A, c, rfl, h1, h2, hl, fun hn => ?_⟩
  obtain ⟨b, o, rfl, hb, hc⟩ := hc hn
  exact ⟨b, o, rfl, by omega, hc⟩
theorem Sl.below (h : Sl w B sz v n xs) (hb : Below B w w') : Sl w' B sz v n xs := h.keep fun _ hp => hb.cell hp
theorem Sl.drew (h : Sl w B sz v n xs) : Sl w.drew B sz v n xs := h
theorem Sl.alloc (h : Sl w B sz v n xs) (hB : B ≤ w.heap.size) (o : Obj) : Sl (w.alloc o) B sz v n xs := h.keep fun p hp => World.cell?_alloc_lt w o p (by omega)
theorem Sl.setCell (h : Sl w B sz v n xs) {p : Addr} (hB : B ≤ p.block) (u : Value) : Sl (w.setCell p u) B sz v n xs :=
  h.keep fun q hq => World.cell?_setCell_other w p q u (fun e => by subst e; omega)
theorem Sl.grown (h : Sl w B sz v n xs) {row : Option Nat} (hg : w.grownBy w' row) (hB : B ≤ w.heap.size) (hr : ∀ g, row = some g → B ≤ g) : Sl w' B sz v n xs :=
  h.keep fun p hp => World.cell?_of_block (hg.block p.block (by omega) (fun e => by have := hr _ e.symm; omega))
theorem Sl.of_own {base : Nat} {e : TypeId} (h : w.ownsRow base e sz v n xs) : Sl w w.heap.size sz v n xs := by
  rcases h.2 with ⟨rfl, rfl⟩ | ⟨g, cap, cur, rfl, hb, hg, hnc, hm, hcs, htake⟩
  · exact ⟨none, 0, rfl, Nat.le_refl _, by decide, h.1, fun hn => absurd hn (by omega)⟩
  · refine ⟨_, _, rfl, hnc, hm, h.1, fun _ => ⟨g, 0, rfl, (Array.getElem?_eq_some_iff.1 hg).1, fun j u hu => ?_⟩⟩
    have := h.cells (g := g) rfl j u hu
    rwa [Addr.add_lit] at this
/-- Of a slice with an element the address is known. -/
theorem Sl.at_ (h : Sl w B sz v n xs) (hn : 0 < n) : ∃ b o c, v = .slice (some ⟨b, o, none⟩) n c ∧ b < B ∧ ∀ j u, xs[j]? = some u → w.cell? ⟨b, o + j, none⟩ = some u := by
  obtain ⟨A, c, rfl, -, -, hl, hc⟩ := h
  obtain ⟨b, o, rfl, hb, hc⟩ := hc hn
  exact ⟨b, o, c, rfl, hb, hc⟩
/-- A slice of some cells in a row. -/
theorem Sl.mk_ {b o c : Nat} (h1 : n ≤ c) (h2 : c ≤ maxLen) (hl : xs.length = n * sz) (hb : b < B) (hc : ∀ j u, xs[j]? = some u → w.cell? ⟨b, o + j, none⟩ = some u) : Sl w B sz (.slice (some ⟨b, o, none⟩) n c) n xs :=
  ⟨_, _, rfl, h1, h2, hl, fun _ => ⟨b, o, rfl, hb, hc⟩⟩
end

/-- Bytes as cells. -/
def bytesV (l : List UInt8) : List Value := l.map fun x => .int .u8 (x.toNat : Int)
theorem length_bytesV (l : List UInt8) : (bytesV l).length = l.length := by simp [bytesV]
theorem bytesV_at (l : List UInt8) (j : Nat) (h : j < l.length) : (bytesV l)[j]? = some (.int .u8 (l[j].toNat : Int)) := by simp [bytesV, h]
/-- The slice value v reads as bytes. -/
def Bytes (w : World) (B : Nat) (v : Value) (l : List UInt8) : Prop := Sl w B 1 v l.length (bytesV l)

/-- A call's end: it returned a value, of which (and of the world) Q holds. -/
def Rets (Q : Value → World → Prop) (e : Ending) (w' : World) : Prop := ∃ v, e = .returned v ∧ Q v w'
/-- Numbers as cells. -/
def natsV (l : List Nat) : List Value := l.map fun (n : Nat) => .int .i64 (n : Int)
theorem length_natsV (l : List Nat) : (natsV l).length = l.length := by simp [natsV]
theorem natsV_at (l : List Nat) (j : Nat) (h : j < l.length) : (natsV l)[j]? = some (.int .i64 (l[j] : Nat)) := by simp [natsV, h]
theorem natsV_append (l m : List Nat) : natsV (l ++ m) = natsV l ++ natsV m := by simp [natsV]
theorem cell_new (w : World) (C : Array Value) (t : TypeId) (fr : Nat × Nat) (i : Nat) : (w.alloc (.cells C t fr)).cell? ⟨w.heap.size, i, none⟩ = C[i]? := by
  have h : (w.alloc (.cells C t fr)).heap[w.heap.size]? = some (.cells C t fr) := heap_alloc_new w _
  unfold World.cell?
  rw [h]
  rfl
/-- The slice over a block that was just made. -/
theorem Sl.new (w : World) (cs : List Value) (t : TypeId) (fr : Nat × Nat) (n sz : Nat) (h : cs.length = n * sz) (hn : n ≤ maxLen) :
    Sl (w.alloc (.cells cs.toArray t fr)) (w.heap.size + 1) sz (.slice (some ⟨w.heap.size, 0, none⟩) n n) n cs :=
  Sl.mk_ (Nat.le_refl _) hn h (by omega) fun j u hu => by rw [Nat.zero_add, cell_new]; simpa using hu
theorem fours_keep {w w' : World} {n : Nat} {f : Nat → Value} (h : ∀ i, i < n → w.cell? ⟨0, i, none⟩ = some (f i)) (hk : ∀ p : Addr, p.block = 0 → w'.cell? p = w.cell? p) :
    ∀ i, i < n → w'.cell? ⟨0, i, none⟩ = some (f i) := fun i hi => (hk _ rfl).trans (h i hi)
section
variable {w : World} {base e sz g n c : Nat} {v : Value} {xs : List Value}
/-- Of a row of the call's own that has an element the address is known. -/
theorem own_at (h : w.ownsRow base e sz v n xs) (hn : 0 < n) : ∃ g c, v = .slice (some ⟨g, 0, none⟩) n c ∧ base ≤ g ∧ g < w.heap.size := by
  rcases h.2 with ⟨_, h0⟩ | ⟨g, cap, cur, hv, hb, hg, _⟩
  · omega
  · exact ⟨g, cap, hv, hb, (Array.getElem?_eq_some_iff.1 hg).1⟩
theorem own_cell (h : w.ownsRow base e sz (.slice (some ⟨g, 0, none⟩) n c) n xs) (j : Nat) (u : Value) (hu : xs[j]? = some u) : w.cell? ⟨g, j, none⟩ = some u := by
  have := h.cells (g := g) rfl j u hu
  rwa [Addr.add_lit, Nat.zero_add] at this
theorem own_free (h : w.ownsRow base e sz (.slice (some ⟨g, 0, none⟩) n c) n xs) (j : Nat) : w.frozen? ⟨g, j, none⟩ = false := by
  rcases h.2 with ⟨h0, _⟩ | ⟨g', cap, cur, hv, hb, hg, _⟩
  · cases h0
  · injection hv with hv
    injection hv with hv
    injection hv with hv
    subst hv
    simp [World.frozen?, hg]
theorem own_set (h : w.ownsRow base e sz (.slice (some ⟨g, 0, none⟩) n c) n xs) (j : Nat) (u : Value) :
    (w.setCell ⟨g, j, none⟩ u).ownsRow base e sz (.slice (some ⟨g, 0, none⟩) n c) n (xs.set j u) := by
  refine ⟨by rw [List.length_set]; exact h.1, ?_⟩
  rcases h.2 with ⟨h0, _⟩ | ⟨g', cap, cur, hv, hb, hg, hnc, hm, hcs, ht⟩
  · cases h0
  · injection hv with hv hv2 hv3
    injection hv with hv
    injection hv with hv
    subst hv
    subst hv3
    refine .inr ⟨g, c, cur.setIfInBounds j u, rfl, hb, heap_setCell_same w g j cur e u hg, hnc, hm, by simpa using hcs, ?_⟩
    rw [Array.toList_setIfInBounds, List.take_set, ht]
end
section
variable {w w' : World} {B B' : Nat} {v : Value} {l : List UInt8}
theorem Bytes.form (h : Bytes w B v l) : ∃ A c, v = .slice A l.length c ∧ l.length ≤ c ∧ c ≤ maxLen := by
  obtain ⟨A, c, rfl, h1, h2, -⟩ := h
  exact ⟨A, c, rfl, h1, h2⟩
theorem Bytes.le (h : Bytes w B v l) : l.length ≤ maxLen := Sl.le h
theorem Bytes.more (h : Bytes w B v l) (hB : B ≤ B') : Bytes w B' v l := Sl.more h hB
theorem Bytes.below (h : Bytes w B v l) (hb : Below B w w') : Bytes w' B v l := Sl.below h hb
theorem Bytes.drew (h : Bytes w B v l) : Bytes w.drew B v l := h
theorem Bytes.alloc (h : Bytes w B v l) (hB : B ≤ w.heap.size) (o : Obj) : Bytes (w.alloc o) B v l := Sl.alloc h hB o
theorem Bytes.nil (w : World) (B : Nat) : Bytes w B (.slice none 0 0) [] := Sl.nil w B 1
theorem Bytes.take {A : Option Addr} {n c : Nat} (h : Bytes w B (.slice A l.length c) l) (hn : n ≤ l.length) : Bytes w B (.slice A n c) (l.take n) := by
  obtain ⟨A', c', hv, h1, h2, -, hc⟩ := h
  injection hv with ha _ hcc
  subst ha; subst hcc
  unfold Bytes
  rw [List.length_take, Nat.min_eq_left hn]
  refine ⟨A, c, rfl, by omega, h2, by simp [length_bytesV]; omega, fun hp => ?_⟩
  obtain ⟨b, o, rfl, hb, hc⟩ := hc (by omega)
  refine ⟨b, o, rfl, hb, fun j u hu => hc j u ?_⟩
  have hb : bytesV (l.take n) = (bytesV l).take n := by simp [bytesV]
  rw [hb, List.getElem?_take] at hu
  split at hu
  · exact hu
  · cases hu
theorem Bytes.drop {A : Option Addr} {n c : Nat} (h : Bytes w B (.slice A l.length c) l) (hn : n ≤ l.length) :
    Bytes w B (.slice (if c = n then A else A.map (·.add n)) (l.length - n) (c - n)) (l.drop n) := by
  obtain ⟨A', c', hv, h1, h2, -, hc⟩ := h
  injection hv with ha _ hcc
  subst ha; subst hcc
  unfold Bytes
  rw [List.length_drop]
  refine ⟨_, _, rfl, by omega, by omega, by simp [length_bytesV], fun hp => ?_⟩
  obtain ⟨b, o, rfl, hb, hc⟩ := hc (by omega)
  rw [if_neg (by omega)]
  refine ⟨b, o + n, by simp [Addr.add_lit], hb, fun j u hu => ?_⟩
  have hb : bytesV (l.drop n) = (bytesV l).drop n := by simp [bytesV]
  rw [hb, List.getElem?_drop] at hu
  rw [Nat.add_assoc]
  exact hc _ u hu
end

end Go.Proofs.YtfbkkhfmboaknaaGreatDoor
