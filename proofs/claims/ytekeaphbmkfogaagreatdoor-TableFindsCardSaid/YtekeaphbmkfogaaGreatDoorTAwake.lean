/-
  Layer 14's law: the chapter's example.
-/
import Derived.Test.YtekeaphbmkfogaaGreatDoorTMake
import Derived.Test.YtekeaphbmkfogaaGreatDoorTSame
namespace Go.Proofs.YtekeaphbmkfogaaGreatDoor
open Go Go.RowKit Go.Shelf
set_option maxRecDepth 100000

def cetE : EraN := ⟨3600, 0, 0, 0, 0, 0, 0, 0, 0⟩
def cetS : ByteArray := ⟨#[67, 69, 84]⟩
theorem cet_kind : kindR cetS.data.toList = (0, 0) := by kernel_rfl
theorem cet_err : errP cetE cetS.data.toList = 0 := by kernel_rfl
theorem cet_shows : Shows cetS (cetE.off + cetE.save) (dstB cetE.save) ⟨#[]⟩ cetS 0 := fun W hm => show_plain cetS _ _ _ W (by decide) hm cet_kind
def cetC : Chg := ⟨-2199023255552, 3600, false, cetS⟩
theorem chgs_one {W : World} {b B : Nat} {c : Chg} (h : Blk W b 45 (chgV c).toArray) (hB : b < B) : Chgs W B (.slice (some ⟨b, 0, none⟩) 1 1) [c] := by
  refine ⟨some ⟨b, 0, none⟩, 1, rfl, Nat.le_refl _, by decide, rfl, fun _ => ⟨b, 0, rfl, hB, fun j u hj => ?_⟩⟩
  rw [Nat.zero_add]
  exact h.cell j (by simpa [chgsV] using hj)
set_option maxHeartbeats 2000000 in
theorem awake_any (w : World) (hm : Tryz.MaxL w) : Calls Tryz.prog 12 #[] w fun e w' => e = .returned (.bool true) ∧ Below w.heap.size w w' := by
  have HM := Lib.hid hm
  clear hm
  go_enter Tryz.func12, Tryz.ntmps12
  have hb0 : Below w.heap.size w ((w.alloc (.cells (eraP cetE cetS).toArray 78)).alloc (.cells #[.string ⟨#[88]⟩, .slice (some ⟨w.heap.size, 0, none⟩) 1 1, .slice none 0 0] 27)) := ((Below.refl _ _).alloc (Nat.le_refl _) _).alloc (by simp) _
  have he0 : OneE ((w.alloc (.cells (eraP cetE cetS).toArray 78)).alloc (.cells #[.string ⟨#[88]⟩, .slice (some ⟨w.heap.size, 0, none⟩) 1 1, .slice none 0 0] 27)) w.heap.size cetE cetS := (Blk.new w 78 (eraP cetE cetS).toArray).alloc _
  have HC := Lib.hid (make_one ⟨#[88]⟩ w.heap.size (.func 14) #[.agg #[.string ⟨#[88]⟩, .slice (some ⟨w.heap.size, 0, none⟩) 1 1, .slice none 0 0]] #[] cetE cetS 2199023255552 _ (by decide) (HM.out.below hb0 (Nat.le_refl _)) he0 (by omega) (by omega) cet_err cetS cet_shows)
  unfold oneZ eraP cetE cetS at HC
  unfold eraP cetE cetS at hb0
  clear he0
  go_wp2_with fail
  refine HC.out.mono ?_
  rintro o w1 ⟨blk, h1, rfl, h3, h4⟩
  have HB := Lib.hid h3
  have HL := Lib.hid h4
  have h3l := h3.lt
  clear h3 h4 HC
  go_wp2_with fail
  have hR : Blk w1 blk 45 (chgV cetC).toArray := HB.out
  have hb1 : Below w1.heap.size w1 (w1.alloc (.cells (chgV cetC).toArray 45)) := (Below.refl _ _).alloc (Nat.le_refl _) _
  have hs : (w1.alloc (.cells (chgV cetC).toArray 45)).heap.size = w1.heap.size + 1 := World.size_alloc ..
  have HS := Lib.hid (same_any (w1.alloc (.cells (chgV cetC).toArray 45)) (w1.heap.size + 1) _ _ [cetC] [cetC] (chgs_one (hR.below hb1 hR.lt) (by omega)) (chgs_one (Blk.new w1 45 (chgV cetC).toArray) (by omega)) (by omega))
  rw [sameB_iff.2 rfl] at HS
  refine HS.out.mono ?_
  rintro o w2 ⟨rfl, hb2⟩
  have hbw := (hb0.trans (HL.out.mono hb0.size))
  have hb3 := hbw.trans ((hb1.trans (hb2.mono hb1.size)).mono hbw.size)
  clear hb2 hbw hb1 hb0 hs hR HS
  go_wp2_with fail
  go_ret
  exact ⟨rfl, hb3⟩
end Go.Proofs.YtekeaphbmkfogaaGreatDoor
