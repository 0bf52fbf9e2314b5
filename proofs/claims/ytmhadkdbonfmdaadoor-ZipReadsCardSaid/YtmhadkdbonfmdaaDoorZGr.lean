/-
  Memory that is as it was, but for one block.
-/
import Derived.Test.YtmhadkdbonfmdaaDoorZFix
namespace Go.Proofs.YtmhadkdbonfmdaaDoor
open Go Go.RowKit

/-- Memory from A to B but for the block c, and new ones. -/
structure Gr (c : Nat) (A B : World) : Prop where
  os : B.os = A.os
  tape : B.tape = A.tape
  output : B.output = A.output
  size : A.heap.size ≤ B.heap.size
  block : ∀ k, k < A.heap.size → k ≠ c → B.heap[k]? = A.heap[k]?
theorem Gr.refl (c : Nat) (A : World) : Gr c A A := ⟨rfl, rfl, rfl, Nat.le_refl _, fun _ _ _ => rfl⟩
theorem Gr.trans {c : Nat} {A B C : World} (h : Gr c A B) (k : Gr c B C) : Gr c A C :=
  ⟨k.os.trans h.os, k.tape.trans h.tape, k.output.trans h.output, Nat.le_trans h.size k.size, fun j hj hc => (k.block j (Nat.lt_of_lt_of_le hj h.size) hc).trans (h.block j hj hc)⟩
theorem Gr.of_below {c B : Nat} {A W : World} (h : Below B A W) (hB : A.heap.size ≤ B) : Gr c A W := ⟨h.os, h.tape, h.output, h.size, fun k hk _ => h.block k (Nat.lt_of_lt_of_le hk hB)⟩
theorem Gr.low {c : Nat} {A B : World} (h : Gr c A B) (hc : c ≤ A.heap.size) : Below c A B := ⟨h.os, h.tape, h.output, h.size, fun k hk => h.block k (Nat.lt_of_lt_of_le hk hc) (Nat.ne_of_lt hk)⟩
theorem gr_drewN {c : Nat} {A B : World} (h : Gr c A B) (q : Nat) : Gr c A (B.drewN q) := ⟨h.os, h.tape, h.output, h.size, h.block⟩
theorem Gr.cell {c : Nat} {A B : World} (h : Gr c A B) {p : Addr} (hp : p.block < A.heap.size) (hc : p.block ≠ c) : B.cell? p = A.cell? p := World.cell?_of_block (h.block p.block hp hc)
end Go.Proofs.YtmhadkdbonfmdaaDoor
