/- WALKS: days as texts, the reference's; a day as a line has it. -/
import Derived.Test.YtkafeedmmghoeaaDoorDec2
namespace Go.Proofs.YtkafeedmmghoeaaDoor.dec
open Go.RowKit Go.Lib base civ

set_option maxHeartbeats 1000000 in
theorem rtext_no (n : Int) (w : World) (h : n < -25567 ∨ 84370 < n) :
    Calls Tryd.prog 27 #[.int .i64 n] w fun e w' => e = .returned (.tuple #[.string ⟨([] : List UInt8).toArray⟩, .int .i64 5]) ∧ Below w.heap.size w w' := by
  go_enter Tryd.func27, Tryd.ntmps27
  go_wp2_with fail
  go_call (rdate_no n _ h) as _ w1 ⟨rfl, hb1⟩
  have hs := hb1.size
  go_wp2
  go_ret2
  exact ⟨rfl, by go_grown⟩

theorem hdigits4_any (v : Nat) (hv : v < 9223372036854775808) (w : World) :
    Calls Tryd.prog 42 #[.int .i64 v, .int .i64 4] w fun e w' => e = .returned (.string ⟨(dig v 4).toArray⟩) ∧ Below w.heap.size w w' := hdigits_any v 4 hv (by omega) (by omega) w
theorem hdigits2_any (v : Nat) (hv : v < 9223372036854775808) (w : World) :
    Calls Tryd.prog 42 #[.int .i64 v, .int .i64 2] w fun e w' => e = .returned (.string ⟨(dig v 2).toArray⟩) ∧ Below w.heap.size w w' := hdigits_any v 2 hv (by omega) (by omega) w
set_option maxHeartbeats 4000000 in
theorem rtext_yes (n : Int) (w : World) (h1 : -25567 ≤ n) (h2 : n ≤ 84370) :
    Calls Tryd.prog 27 #[.int .i64 n] w fun e w' => (∃ y m d, IsDate n y m d ∧ e = .returned (.tuple #[.string ⟨(dateL y m d).toArray⟩, .int .i64 0])) ∧ Below w.heap.size w w' := by
  go_enter Tryd.func27, Tryd.ntmps27
  go_wp2_with fail
  go_call (rdate_yes n _ h1 h2) as _ w1 ⟨y, m, d, rfl, hd, hb1⟩
  have hcat := cat_str
  have hy : 1900 ≤ y ∧ y ≤ 2200 := ⟨hd.y0, hd.y1⟩
  have hm : 1 ≤ m ∧ m ≤ 12 := ⟨hd.m0, hd.m1⟩
  have hdd : 1 ≤ d ∧ d ≤ 31 := ⟨hd.d0, by have := hd.d1; have := mlen_bound y m; omega⟩
  have HD := Lib.hid hd
  clear hd
  obtain ⟨Y, rfl⟩ := Int.eq_ofNat_of_zero_le (show 0 ≤ y by omega)
  obtain ⟨M, rfl⟩ := Int.eq_ofNat_of_zero_le (show 0 ≤ m by omega)
  obtain ⟨D, rfl⟩ := Int.eq_ofNat_of_zero_le (show 0 ≤ d by omega)
  have l0 := dig_len Y 4 (by omega) (by omega)
  have l1 := dig_len M 2 (by omega) (by omega)
  have l2 := dig_len D 2 (by omega) (by omega)
  have q1 : ¬ 9223372036854775807 < (dig Y 4).length + 1 := by omega
  have q2 : ¬ 9223372036854775807 < (dig Y 4).length + 1 + (dig M 2).length := by omega
  have q3 : ¬ 9223372036854775807 < (dig Y 4).length + ((dig M 2).length + 1) + 1 := by omega
  have q4 : ¬ 9223372036854775807 < (dig Y 4).length + ((dig M 2).length + 1 + 1) + (dig D 2).length := by omega
  have hs := hb1.size
  have hbl := hb1.alloc hs (.cells #[.int .i64 (Y : Int), .int .i64 (M : Int), .int .i64 (D : Int)] 72)
  go_wp2_with fail
  go_region_held3 (fun w' => w'.cell? ⟨w1.heap.size, 0, none⟩ = some (.int .i64 (Y : Int)) ∧ w'.cell? ⟨w1.heap.size, 1, none⟩ = some (.int .i64 (M : Int)) ∧ w'.cell? ⟨w1.heap.size, 2, none⟩ = some (.int .i64 (D : Int)) ∧ Below w.heap.size w w')
    (((try go_split_ands); (try dsimp only); (repeat' apply And.intro) <;> (first | (exact hbl.drew) | (exact cell_below hb (by assumption)) | (exact below_self (by assumption) hb) | go_keep)))
    (first
      | (go_at_call 42; go_split_ands; (with_reducible refine (hdigits4_any _ (by omega) _).mono ?_); rintro e w' ⟨rfl, hb⟩)
      | (go_at_call 42; go_split_ands; (with_reducible refine (hdigits2_any _ (by omega) _).mono ?_); rintro e w' ⟨rfl, hb⟩))
  go_wp2
  go_ret2
  refine ⟨⟨Y, M, D, HD.out, ?_⟩, below_self (by assumption) hb⟩
  refine ret_t2 (congrArg (fun l : List UInt8 => Value.string ⟨l.toArray⟩) ?_) rfl
  unfold dateL
  rw [← dig_four Y (by omega) (by omega), ← dig_two M (by omega), ← dig_two D (by omega)]

/-- a day, as a line has it -/
noncomputable def dayL (n : Int) : List UInt8 :=
  open Classical in
  if h : ∃ y m d, IsDate n y m d then dateL (Classical.choose h) (Classical.choose (Classical.choose_spec h)) (Classical.choose (Classical.choose_spec (Classical.choose_spec h))) else [110, 111, 110, 101]
theorem dayL_yes {n y m d : Int} (h : IsDate n y m d) : dayL n = dateL y m d := by
  have hx : ∃ y m d, IsDate n y m d := ⟨y, m, d, h⟩
  unfold dayL
  rw [dif_pos hx]
  have hs := Classical.choose_spec (Classical.choose_spec (Classical.choose_spec hx))
  obtain ⟨e1, e2, e3⟩ := hs.unique h
  have hc : ∀ {a b c a' b' c' : Int}, a = a' → b = b' → c = c' → dateL a b c = dateL a' b' c' := by
    intro a b c a' b' c' h1 h2 h3
    rw [h1, h2, h3]
  exact hc e1 e2 e3
theorem IsDate.range {n y m d : Int} (h : IsDate n y m d) : -25567 ≤ n ∧ n ≤ 84370 := by
  obtain ⟨a1, a2, a3, a4, a5, a6, a7⟩ := h
  have hc := cum_bound y m a4
  have h0 : opens 1900 ≤ opens y := by
    by_cases e : y = 1900
    · subst e; exact Int.le_refl _
    · have := opens_le (show 1900 < y by omega); omega
  have h1 : opens y + 365 + (if leap y then 1 else 0) ≤ opens 2201 := opens_leap_le (by omega)
  have e0 : opens 1900 = -25567 := by decide
  have e1 : opens 2201 = 84371 := by decide
  omega
theorem dayL_no {n : Int} (h : n < -25567 ∨ 84370 < n) : dayL n = [110, 111, 110, 101] := by
  unfold dayL
  rw [dif_neg]
  rintro ⟨y, m, d, hd⟩
  have := IsDate.range hd
  omega

set_option maxHeartbeats 1000000 in
theorem sdate_any (n : Int) (w : World) (ht : Tab w) :
    Calls Tryd.prog 12 #[.int .i64 n] w fun e w' => e = .returned (.string ⟨(dayL n).toArray⟩) ∧ Below w.heap.size w w' := by
  by_cases h : n < -25567 ∨ 84370 < n
  · rw [dayL_no h]
    go_enter Tryd.func12, Tryd.ntmps12
    go_wp2_with fail
    go_call (text_no n _ h) as _ w1 ⟨rfl, hb1⟩
    go_wp2
    go_ret
    exact ⟨rfl, hb1⟩
  · go_enter Tryd.func12, Tryd.ntmps12
    go_wp2_with fail
    go_call (text_yes n _ ht (by omega) (by omega)) as _ w1 ⟨⟨y, m, d, hd, rfl⟩, hb1⟩
    have HE := Lib.hid (dayL_yes hd)
    go_wp2
    go_ret
    rw [HE.out]
    exact ⟨rfl, hb1⟩

set_option maxHeartbeats 1000000 in
theorem rdatel_any (n : Int) (w : World) :
    Calls Tryd.prog 16 #[.int .i64 n] w fun e w' => e = .returned (.string ⟨(dayL n).toArray⟩) ∧ Below w.heap.size w w' := by
  by_cases h : n < -25567 ∨ 84370 < n
  · rw [dayL_no h]
    go_enter Tryd.func16, Tryd.ntmps16
    go_wp2_with fail
    go_call (rtext_no n _ h) as _ w1 ⟨rfl, hb1⟩
    go_wp2
    go_ret
    exact ⟨rfl, hb1⟩
  · go_enter Tryd.func16, Tryd.ntmps16
    go_wp2_with fail
    go_call (rtext_yes n _ (by omega) (by omega)) as _ w1 ⟨⟨y, m, d, hd, rfl⟩, hb1⟩
    have HE := Lib.hid (dayL_yes hd)
    go_wp2
    go_ret
    rw [HE.out]
    exact ⟨rfl, hb1⟩

set_option maxHeartbeats 1000000 in
theorem rnumber_any (n : Int) (h0 : -9223372036854775808 ≤ n) (h1 : n ≤ 9223372036854775807) (w : World) :
    Calls Tryd.prog 18 #[.int .i64 n] w fun e w' => e = .returned (.string ⟨(Lib.itoa n).toArray⟩) ∧ Below w.heap.size w w' := by
  have hcat := cat_str
  by_cases hn : n < 0
  · have hm : IntKind.u64.wrap (-(n + 1)) = -(n + 1) := by rw [IntKind.wrap_u64]; omega
    have l1 := dig_len n.natAbs 1 (by omega) (by omega)
    have q1 : ¬ 9223372036854775807 < 1 + (dig n.natAbs 1).length := by omega
    go_enter Tryd.func18, Tryd.ntmps18
    go_wp2_with fail
    rw [show -(n + 1) + 1 = (n.natAbs : Int) from by omega]
    go_call (rdigits_any n.natAbs 1 (by omega) (by omega) (by omega) _) as _ w2 ⟨rfl, hb2⟩
    go_wp2
    go_ret
    refine ⟨ret_str ?_, hb2⟩
    rw [dig_one _ (by omega)]
    unfold Lib.itoa
    rw [if_pos hn]
  · have hm : IntKind.u64.wrap n = n := by rw [IntKind.wrap_u64]; omega
    go_enter Tryd.func18, Tryd.ntmps18
    go_wp2_with fail
    rw [show n = (n.natAbs : Int) from by omega]
    go_call (rdigits_any n.natAbs 1 (by omega) (by omega) (by omega) _) as _ w2 ⟨rfl, hb2⟩
    go_wp2
    go_ret
    refine ⟨ret_str ?_, hb2⟩
    have hi := itoa_nonneg n.natAbs
    rw [show ((n.natAbs : Nat) : Int) = n from by omega] at hi
    rw [dig_one _ (by omega), hi]
end Go.Proofs.YtkafeedmmghoeaaDoor.dec
