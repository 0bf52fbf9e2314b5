/-
  The answers of layer 16's reference: what is wrong with members.
-/
import Derived.Test.YtmhadkdbonfmdaaDoorZRSum
namespace Go.Proofs.YtmhadkdbonfmdaaDoor
open Go Go.RowKit Go.Shelf
set_option maxRecDepth 100000

theorem nodup_take {l : Row} {k : Nat} (h : k < l.length) : (l.take (k + 1)).Nodup ↔ (l.take k).Nodup ∧ l[k] ∉ l.take k := by
  rw [List.take_succ_eq_append_getElem h, List.nodup_append]
  constructor
  · rintro ⟨h1, -, h3⟩
    exact ⟨h1, fun hm => h3 _ hm _ (by simp) rfl⟩
  · rintro ⟨h1, h2⟩
    exact ⟨h1, by simp, fun a ha b hb e => by
      simp only [List.mem_singleton] at hb
      subst hb
      subst e
      exact h2 ha⟩
theorem mem_take_succ {l : Row} {k : Nat} {x : List UInt8} (h : k < l.length) : x ∈ l.take (k + 1) ↔ x ∈ l.take k ∨ x = l[k] := by
  rw [List.take_succ_eq_append_getElem h, List.mem_append, List.mem_singleton]
/-- In four steps. -/
theorem checkL_many {l : List (List UInt8 × Nat)} (h : 64 < l.length) : checkL l = 14 := if_pos h
theorem checkL_name {l : List (List UInt8 × Nat)} (h : l.length ≤ 64) {k : Nat} (hk : k < l.length) (hn : nameOk (l[k]).1 = false) : checkL l = 23 := by
  rw [checkL, if_neg (by omega), if_pos]
  rw [List.any_eq_true]
  exact ⟨l[k], List.getElem_mem hk, by rw [hn]; rfl⟩
theorem checkL_there {l : List (List UInt8 × Nat)} (h : l.length ≤ 64) (hn : (l.map (·.1)).all nameOk = true) (hd : ¬ (l.map (·.1)).Nodup) : checkL l = 15 := by
  rw [checkL, if_neg (by omega), if_neg, if_pos hd]
  rw [List.any_eq_true]
  rintro ⟨m, hm, h⟩
  have := List.all_eq_true.1 hn m.1 (List.mem_map.2 ⟨m, hm, rfl⟩)
  rw [this] at h
  cases h
theorem checkL_size {l : List (List UInt8 × Nat)} (h : l.length ≤ 64) (hn : (l.map (·.1)).all nameOk = true) (hd : (l.map (·.1)).Nodup) : checkL l = if (l.map (·.2)).any (fun s => decide (4194304 < s)) then 22 else 0 := by
  rw [checkL, if_neg (by omega), if_neg, if_neg (by simpa using hd)]
  · rw [List.any_map]
    rfl
  · rw [List.any_eq_true]
    rintro ⟨m, hm, h⟩
    have := List.all_eq_true.1 hn m.1 (List.mem_map.2 ⟨m, hm, rfl⟩)
    rw [this] at h
    cases h
theorem all_take_succ {l : Row} {k : Nat} (h : k < l.length) : (l.take (k + 1)).all nameOk = ((l.take k).all nameOk && nameOk l[k]) := by
  rw [List.take_succ_eq_append_getElem h, List.all_append]
  simp only [List.all_cons, List.all_nil, Bool.and_true]
theorem any_take_succ {l : List Nat} {k : Nat} (h : k < l.length) : (l.take (k + 1)).any (fun s => decide (4194304 < s)) = ((l.take k).any (fun s => decide (4194304 < s)) || decide (4194304 < l[k])) := by
  rw [List.take_succ_eq_append_getElem h, List.any_append]
  simp only [List.any_cons, List.any_nil, Bool.or_false]
theorem any_at {l : List Nat} {k : Nat} (h : k < l.length) (hs : 4194304 < l[k]) : l.any (fun s => decide (4194304 < s)) = true := by
  rw [List.any_eq_true]
  exact ⟨l[k], List.getElem_mem h, by simpa using hs⟩

set_option maxHeartbeats 2000000 in
theorem rcheck_any (w : World) (v u : Value) (l : List (List UInt8 × Nat)) (hv : Sl w w.heap.size 1 v l.length (strsV (l.map (·.1)))) (hu : Sl w w.heap.size 1 u l.length (natsV (l.map (·.2)))) (hl : l.length ≤ 100000) (hn : ∀ x ∈ l.map (·.1), x.length ≤ maxLen) (hz : ∀ x ∈ l.map (·.2), x ≤ 9223372036854775807) :
    Calls Tryd.prog 11 #[v, u] w fun e w' => e = .returned (.int .i64 (checkL l : Nat)) ∧ Below w.heap.size w w' := by
  obtain ⟨A, c, rfl, hlc, hcm, -, hA⟩ := hv
  obtain ⟨A', c', rfl, hlc', hcm', -, hA'⟩ := hu
  unfold maxLen at hcm hcm'
  have H14 : Hid (64 < l.length → checkL l = 14) := checkL_many
  have H23 : Hid (l.length ≤ 64 → ∀ k (hk : k < (l.map (·.1)).length), nameOk (l.map (·.1))[k] = false → checkL l = 23) := fun h k hk hn => checkL_name h (k := k) (by simpa using hk) (by simpa using hn)
  have H15 : Hid (l.length ≤ 64 → (l.map (·.1)).all nameOk = true → ¬ (l.map (·.1)).Nodup → checkL l = 15) := checkL_there
  have H22 : Hid (l.length ≤ 64 → (l.map (·.1)).all nameOk = true → (l.map (·.1)).Nodup → checkL l = if (l.map (·.2)).any (fun s => decide (4194304 < s)) then 22 else 0) := checkL_size
  have HA := Lib.hid hA
  have HA' := Lib.hid hA'
  have HN := Lib.hid hn
  have HZ := Lib.hid hz
  have hlen : (l.map (·.1)).length = l.length := by simp
  have hlen' : (l.map (·.2)).length = l.length := by simp
  clear hA hA' hn hz
  generalize l.map (·.1) = ns at *
  generalize l.map (·.2) = zs at *
  generalize checkL l = ck at *
  generalize l.length = n at *
  rcases Nat.lt_or_ge 64 n with hbig | hbig
  · have he := H14.out hbig
    subst he
    go_enter Tryd.func11, Tryd.ntmps11
    go_wp2_with fail
    go_ret
    exact ⟨rfl, Below.refl _ _⟩
  subst hlen
  have K23 := Lib.hid (H23.out hbig)
  have K15 := Lib.hid (H15.out hbig)
  have K22 := Lib.hid (H22.out hbig)
  clear H14 H23 H15 H22
  go_enter Tryd.func11, Tryd.ntmps11
  go_wp2_with fail
  go_loopw [5] (fun i wr => ∃ k : Nat, k ≤ ns.length ∧ i = .int .i64 k ∧ (ns.take k).all nameOk = true ∧ w = wr) (fun i _ => ns.length - (intOf i).toNat)
  case atStart => exact ⟨0, by omega, rfl, rfl, rfl⟩
  case round =>
    obtain ⟨k, hk, rfl, hall, rfl⟩ := hrel
    have HALL := Lib.hid hall
    clear hall
    by_cases hlt : k < ns.length
    · obtain ⟨b, o, rfl, hbB, hc⟩ := HA.out (by omega)
      have hcell := hc k _ (strsV_at ns k hlt)
      have hnm := HN.out _ (List.getElem_mem hlt)
      have HT := Lib.hid (all_take_succ hlt)
      have HNO := Lib.hid (K23.out k hlt)
      have HRN := Lib.hid (rname_any w ns[k] hnm)
      clear hc
      generalize ns[k] = name at *
      go_wp2_with fail
      refine HRN.out.mono ?_
      rintro e ww ⟨rfl, rfl⟩
      cases hok : nameOk name with
      | false =>
        have he := HNO.out hok
        subst he
        go_wp2_with fail
        go_ret
        exact ⟨rfl, Below.refl _ _⟩
      | true =>
        go_wp2_with fail
        go_roundw
        case rel => exact ⟨k + 1, by omega, by go_num, by rw [HT.out, HALL.out, hok]; rfl, trivial⟩
        case measure => first | (simp [intOf]; done) | (simp [intOf]; omega)
    · obtain rfl : k = ns.length := by omega
      rw [List.take_length] at HALL
      have H15 := Lib.hid (K15.out HALL.out)
      have H22 := Lib.hid (K22.out HALL.out)
      clear HALL
      go_wp2_with fail
      go_loopw [6] (fun i wr => ∃ k : Nat, k ≤ ns.length ∧ i = .int .i64 k ∧ (ns.take k).Nodup ∧ Below w.heap.size w wr) (fun i _ => ns.length - (intOf i).toNat)
      case atStart => exact ⟨0, by omega, rfl, List.nodup_nil, Below.refl _ _⟩
      case round =>
        obtain ⟨i, hi, rfl, hnd, hbel⟩ := hrel
        have HND := Lib.hid hnd
        clear hnd
        by_cases hlt : i < ns.length
        · go_wp2_with fail
          obtain ⟨wo, rfl⟩ : ∃ wo : World, wo = wr := ⟨_, rfl⟩
          go_loopw [7] (fun j wr => ∃ k : Nat, k ≤ i ∧ j = .int .i64 k ∧ ns[i] ∉ ns.take k ∧ Below w.heap.size w wr) (fun j _ => i - (intOf j).toNat)
          case atStart => exact ⟨0, by omega, rfl, by simp, hbel⟩
          case round =>
            obtain ⟨k, hk, rfl, hno, hbel⟩ := hrel
            have HNO := Lib.hid hno
            clear hno
            by_cases hlk : k < i
            · obtain ⟨b, o, rfl, hbB, hc⟩ := HA.out (by omega)
              have hc1 := (hbel.cell (p := ⟨b, o + i, none⟩) hbB).trans (hc i _ (strsV_at ns i hlt))
              have hc2 := (hbel.cell (p := ⟨b, o + k, none⟩) hbB).trans (hc k _ (strsV_at ns k (by omega)))
              clear hc
              have HM := Lib.hid (mem_take_succ (x := ns[i]) (show k < ns.length by omega))
              by_cases hsame : ns[i] = ns[k]
              · have he : ck = 15 := H15.out fun h => by
                  have h1 := (nodup_take hlt).1 ((List.take_sublist _ _).nodup h)
                  exact h1.2 (by rw [hsame, List.mem_take_iff_getElem]; exact ⟨k, by omega, rfl⟩)
                subst he
                generalize ns[i] = x at *
                generalize ns[k] = y at *
                subst hsame
                go_wp2_with fail
                go_quiet (fail)
                go_wp2_with fail
                go_ret
                exact ⟨rfl, below_drewN hbel _⟩
              · generalize ns[i] = x at *
                generalize ns[k] = y at *
                have hne : (x == y) = false := by rw [beq_eq_false_iff_ne]; exact hsame
                go_wp2_with fail
                go_quiet (fail)
                go_wp2_with fail
                go_roundw
                case rel => exact ⟨k + 1, by omega, by go_num, fun h => (HM.out.1 h).elim HNO.out hsame, below_drewN hbel _⟩
                case measure => first | (simp [intOf]; done) | (simp [intOf]; omega)
            · obtain rfl : k = i := by omega
              have hnd := (nodup_take hlt).2 ⟨HND.out, HNO.out⟩
              have HND2 := Lib.hid hnd
              clear hnd
              go_wp2_with fail
              go_roundw
              case rel => exact ⟨k + 1, by omega, by go_num, HND2.out, hbel⟩
              case measure => first | (simp [intOf]; done) | (simp [intOf]; omega)
        · obtain rfl : i = ns.length := by omega
          rw [List.take_length] at HND
          have H22 := Lib.hid (H22.out HND.out)
          clear HND H15 K15 K22
          go_wp2_with fail
          obtain ⟨wo, rfl⟩ : ∃ wo : World, wo = wr := ⟨_, rfl⟩
          go_loopw [8] (fun j wr => ∃ k : Nat, k ≤ ns.length ∧ j = .int .i64 k ∧ (zs.take k).any (fun s => decide (4194304 < s)) = false ∧ Below w.heap.size w wr) (fun j _ => ns.length - (intOf j).toNat)
          case atStart => exact ⟨0, by omega, rfl, rfl, hbel⟩
          case round =>
            obtain ⟨k, hk, rfl, hno, hbel⟩ := hrel
            have HNO := Lib.hid hno
            clear hno
            by_cases hlk : k < ns.length
            · have hlz : k < zs.length := by omega
              obtain ⟨b, o, rfl, hbB, hc⟩ := HA'.out (by omega)
              have hc1 := (hbel.cell (p := ⟨b, o + k, none⟩) hbB).trans (hc k _ (natsV_at zs k hlz))
              have hz := HZ.out _ (List.getElem_mem hlz)
              have HT := Lib.hid (any_take_succ hlz)
              have HAT := Lib.hid (any_at hlz)
              clear hc
              generalize zs[k] = z at *
              rcases Nat.lt_or_ge 4194304 z with h | h
              · have he : ck = 22 := by rw [H22.out, HAT.out h]; rfl
                subst he
                go_wp2_with fail
                go_ret
                exact ⟨rfl, hbel⟩
              · go_wp2_with fail
                go_roundw
                case rel => exact ⟨k + 1, by omega, by go_num, by rw [HT.out, HNO.out, Bool.false_or, decide_eq_false_iff_not]; omega, hbel⟩
                case measure => first | (simp [intOf]; done) | (simp [intOf]; omega)
            · obtain rfl : k = ns.length := by omega
              rw [show ns.length = zs.length by omega, List.take_length] at HNO
              have he : ck = 0 := by rw [H22.out, HNO.out]; rfl
              subst he
              go_wp2_with fail
              go_ret
              exact ⟨rfl, hbel⟩
end Go.Proofs.YtmhadkdbonfmdaaDoor
