/-
  Layer 13's law: the chapter's example.
-/
import Derived.Test.YtfbkkhfmboaknaaGreatDoorAAt
namespace Go.Proofs.YtfbkkhfmboaknaaGreatDoor
open Go Go.RowKit Go.Shelf
set_option maxRecDepth 100000

def cetE : EraN := ⟨3600, 0, 0, 0, 0, 0, 0, 0, 0⟩
def cetS : ByteArray := ⟨#[67, 69, 84]⟩
theorem cet_kind : kindR cetS.data.toList = (0, 0) := by kernel_rfl
theorem cet_err : errP cetE cetS.data.toList = 0 := by kernel_rfl
theorem cet_shows : Shows cetS (cetE.off + cetE.save) (dstB cetE.save) ⟨#[]⟩ cetS 0 := fun W hm => show_plain cetS _ _ _ W (by decide) hm cet_kind
set_option maxHeartbeats 2000000 in
theorem awake_any (w : World) (hm : Tryz.MaxL w) : Calls Tryz.prog 10 #[] w fun e w' => e = .returned (.bool true) ∧ Below w.heap.size w w' := by
  have HM := Lib.hid hm
  clear hm
  have hb0 : Below w.heap.size w ((w.alloc (.cells (eraP cetE cetS).toArray 54)).alloc (.cells #[.string ⟨#[88]⟩, .slice (some ⟨w.heap.size, 0, none⟩) 1 1, .slice none 0 0] 27)) := ((Below.refl w.heap.size w).alloc (Nat.le_refl _) _).alloc (by simp) _
  have he0 : OneE ((w.alloc (.cells (eraP cetE cetS).toArray 54)).alloc (.cells #[.string ⟨#[88]⟩, .slice (some ⟨w.heap.size, 0, none⟩) 1 1, .slice none 0 0] 27)) w.heap.size cetE cetS := (Blk.new w 54 _).alloc _
  have hw0 := Blk.new (w.alloc (.cells (eraP cetE cetS).toArray 54)) 27 #[.string ⟨#[88]⟩, .slice (some ⟨w.heap.size, 0, none⟩) 1 1, .slice none 0 0]
  rw [World.size_alloc] at hw0
  have HA := Lib.hid (show ∀ (i : Int), -2199023255552 ≤ i ∧ i ≤ 2199023255552 → ∀ (W : World), Below w.heap.size w W → OneE W w.heap.size cetE cetS → Calls Tryz.prog 16 #[.agg #[.string ⟨#[88]⟩, .slice (some ⟨w.heap.size, 0, none⟩) 1 1], .func (.func 13) #[.agg #[.string ⟨#[88]⟩, .slice (some ⟨w.heap.size, 0, none⟩) 1 1, .slice none 0 0]] #[], .int .i64 i] W fun o w' => o = .returned (.tuple #[.agg #[.int .i64 3600, .bool false, .string ⟨#[67, 69, 84]⟩], .int .i64 0]) ∧ Below W.heap.size W w' from
    fun i hi W hb he => (at_one ⟨#[88]⟩ w.heap.size (.func 13) #[.agg #[.string ⟨#[88]⟩, .slice (some ⟨w.heap.size, 0, none⟩) 1 1, .slice none 0 0]] #[] cetE cetS i W (by decide) (HM.out.below hb (Nat.le_refl _)) he hi.1 hi.2 cet_err cetS 0 cet_shows).mono fun o w' h => ⟨h.1.trans rfl, h.2⟩)
  unfold eraP cetE cetS at hb0 hw0
  go_enter Tryz.func10, Tryz.ntmps10
  go_wp2_with fail
  refine (HA.out 5 (by omega) _ hb0 he0).mono ?_
  rintro o w1 ⟨rfl, hb⟩
  have HE1 := Lib.hid (show OneE w1 w.heap.size cetE cetS from Blk.below he0 hb (Blk.lt he0))
  have hw1 := hw0.below hb hw0.lt
  have HB1 := Lib.hid (hb0.trans (hb.mono hb0.size))
  have hs1 := HB1.out.size
  clear hb hb0 he0 hw0
  have q0 := hw1.cell 0 (v := .string ⟨#[88]⟩) rfl
  have q1 := hw1.cell 1 (v := .slice (some ⟨w.heap.size, 0, none⟩) 1 1) rfl
  have q2 := hw1.cell 2 (v := .slice none 0 0) rfl
  have hl1 := hw1.lt
  have HB2 := Lib.hid (HB1.out.alloc hs1 (.cells #[.int .i64 3600, .bool false, .string ⟨#[67, 69, 84]⟩] 41))
  have HE2 := Lib.hid (show OneE (w1.alloc (.cells #[.int .i64 3600, .bool false, .string ⟨#[67, 69, 84]⟩] 41)) w.heap.size cetE cetS from Blk.alloc HE1.out _)
  have HX2 := Lib.hid (Blk.new w1 41 #[.int .i64 3600, .bool false, .string ⟨#[67, 69, 84]⟩])
  go_wp2_with fail
  refine (HA.out (-2199023255552) (by omega) _ HB2.out HE2.out).mono ?_
  rintro o w2 ⟨rfl, hb⟩
  have hx2 := HX2.out.below hb HX2.out.lt
  have HB3 := Lib.hid ((HB2.out.trans (hb.mono HB2.out.size)).alloc (by have := HB2.out.size; have := hb.size; omega) (.cells #[.int .i64 3600, .bool false, .string ⟨#[67, 69, 84]⟩] 41))
  have x0 := hx2.cell 0 (v := .int .i64 3600) rfl
  have x1 := hx2.cell 1 (v := .bool false) rfl
  have x2 := hx2.cell 2 (v := .string ⟨#[67, 69, 84]⟩) rfl
  have hl2 := hx2.lt
  clear hb hx2 q0 q1 q2 hw1
  go_wp2_with fail
  go_ret
  exact ⟨rfl, HB3.out⟩
end Go.Proofs.YtfbkkhfmboaknaaGreatDoor
