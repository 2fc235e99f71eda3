/- WALKS: package civil, and the reference's days: each function answers what plain arithmetic says; they read no memory and change none. -/
import Derived.Test.YtkafeedmmghoeaaDoorBase
namespace Go.Proofs.YtkafeedmmghoeaaDoor.civ
open Go.RowKit Go.Lib base

/-! plain calendar -/
def leap (y : Int) : Bool := decide (y % 4 = 0 ∧ (y % 100 ≠ 0 ∨ y % 400 = 0))
def mlen (y m : Int) : Int :=
  if m < 1 ∨ m > 12 then 0
  else if m = 4 ∨ m = 6 ∨ m = 9 ∨ m = 11 then 30
  else if m = 2 then (if leap y then 29 else 28) else 31
def opens (y : Int) : Int := 365 * (y - 1) + (y - 1) / 4 - (y - 1) / 100 + (y - 1) / 400 - 719162

theorem leap_t {y : Int} (h4 : y % 4 = 0) (h : y % 100 ≠ 0 ∨ y % 400 = 0) : leap y = true := by
  unfold leap; exact decide_eq_true ⟨h4, h⟩
theorem leap_f {y : Int} (h : y % 4 ≠ 0 ∨ (y % 100 = 0 ∧ y % 400 ≠ 0)) : leap y = false := by
  unfold leap
  apply decide_eq_false
  omega

set_option maxHeartbeats 400000 in
theorem long_any (y : Int) (w : World) (h0 : 0 ≤ y) :
    Calls Tryd.prog 63 #[.int .i64 y] w fun e w' => e = .returned (.bool (leap y)) ∧ w' = w := by
  go_enter Tryd.func63, Tryd.ntmps63
  go_wp2
  all_goals go_ret
  all_goals refine ⟨ret_bool ?_, rfl⟩
  all_goals (unfold leap; first | (rw [Bool.eq_iff_iff]; simp; omega) | (simp; omega) | simp_all)

set_option maxHeartbeats 1000000 in
theorem month_any (y m : Int) (w : World) (h0 : 0 ≤ y) :
    Calls Tryd.prog 48 #[.int .i64 y, .int .i64 m] w fun e w' => e = .returned (.int .i64 (mlen y m)) ∧ w' = w := by
  go_enter Tryd.func48, Tryd.ntmps48
  go_wp2_with (go_at_call 63; refine (long_any _ _ h0).mono ?_; rintro e w' ⟨rfl, rfl⟩)
  all_goals go_ret
  all_goals refine ⟨ret_i64 ?_, rfl⟩
  all_goals go_light
  all_goals grind [mlen]

set_option maxHeartbeats 400000 in
theorem opens_any (y : Int) (w : World) (h0 : 1 ≤ y) (h1 : y ≤ 10000) :
    Calls Tryd.prog 47 #[.int .i64 y] w fun e w' => e = .returned (.int .i64 (opens y)) ∧ w' = w := by
  go_enter Tryd.func47, Tryd.ntmps47
  go_wp2
  all_goals go_ret
  all_goals refine ⟨ret_i64 ?_, rfl⟩
  all_goals go_light
  all_goals (unfold opens; omega)

/-! the day's date: told by what it is -/
def cum (y m : Int) : Int :=
  if m ≤ 1 then 0 else if m = 2 then 31 else
  (if m = 3 then 59 else if m = 4 then 90 else if m = 5 then 120 else if m = 6 then 151 else if m = 7 then 181 else if m = 8 then 212
   else if m = 9 then 243 else if m = 10 then 273 else if m = 11 then 304 else if m = 12 then 334 else 365) + (if leap y then 1 else 0)
structure IsDate (n y m d : Int) : Prop where
  y0 : 1900 ≤ y
  y1 : y ≤ 2200
  m0 : 1 ≤ m
  m1 : m ≤ 12
  d0 : 1 ≤ d
  d1 : d ≤ mlen y m
  n_ : n = opens y + cum y m + d - 1
theorem cum_succ (y m : Int) (h0 : 1 ≤ m) (h1 : m ≤ 12) : cum y (m + 1) = cum y m + mlen y m := by
  obtain rfl | rfl | rfl | rfl | rfl | rfl | rfl | rfl | rfl | rfl | rfl | rfl : m = 1 ∨ m = 2 ∨ m = 3 ∨ m = 4 ∨ m = 5 ∨ m = 6 ∨ m = 7 ∨ m = 8 ∨ m = 9 ∨ m = 10 ∨ m = 11 ∨ m = 12 := by omega
  all_goals (cases hl : leap y <;> simp [cum, mlen, hl])
theorem cum_bound (y m : Int) (h1 : m ≤ 12) : 0 ≤ cum y m ∧ cum y m + mlen y m ≤ 365 + (if leap y then 1 else 0) := by
  by_cases h0 : m < 1
  · have : cum y m = 0 := by unfold cum; rw [if_pos (by omega)]
    have : mlen y m = 0 := by unfold mlen; rw [if_pos (by omega)]
    split <;> omega
  obtain rfl | rfl | rfl | rfl | rfl | rfl | rfl | rfl | rfl | rfl | rfl | rfl : m = 1 ∨ m = 2 ∨ m = 3 ∨ m = 4 ∨ m = 5 ∨ m = 6 ∨ m = 7 ∨ m = 8 ∨ m = 9 ∨ m = 10 ∨ m = 11 ∨ m = 12 := by omega
  all_goals (cases hl : leap y <;> simp [cum, mlen, hl])
theorem opens_succ (y : Int) : opens (y + 1) = opens y + 365 + (if leap y then 1 else 0) := by
  unfold opens leap
  split <;> rename_i h <;> simp at h <;> omega
theorem mlen_bound (y m : Int) : 0 ≤ mlen y m ∧ mlen y m ≤ 31 := by unfold mlen; grind
theorem opens_le {a b : Int} (h : a < b) : opens a + 365 ≤ opens b := by unfold opens; omega
theorem opens_leap_le {a b : Int} (h : a < b) : opens a + 365 + (if leap a then 1 else 0) ≤ opens b := by
  have := opens_succ a
  by_cases e : b = a + 1
  · subst e; omega
  · have := opens_le (a := a + 1) (b := b) (by omega); omega
theorem cum_lt {y a b : Int} (h0 : 1 ≤ a) (h : a < b) (hb : b ≤ 12) : cum y a + mlen y a ≤ cum y b := by
  have ha := cum_succ y a h0 (by omega)
  have aux : ∀ (k : Nat) (c : Int), 1 ≤ c → c + k ≤ 12 → cum y c ≤ cum y (c + k) := by
    intro k
    induction k with
    | zero => intro c _ _; simp
    | succ k ih =>
      intro c h1 h2
      have := ih c h1 (by omega)
      have h3 := cum_succ y (c + k) (by omega) (by omega)
      have := (mlen_bound y (c + k)).1
      have e : c + ((k + 1 : Nat) : Int) = c + k + 1 := by omega
      rw [e]; omega
  have := aux (b - a - 1).toNat (a + 1) (by omega) (by omega)
  have e : a + 1 + ((b - a - 1).toNat : Int) = b := by omega
  rw [e] at this
  omega
theorem IsDate.unique {n y m d y' m' d' : Int} (h : IsDate n y m d) (h' : IsDate n y' m' d') : y = y' ∧ m = m' ∧ d = d' := by
  obtain ⟨a1, a2, a3, a4, a5, a6, a7⟩ := h
  obtain ⟨b1, b2, b3, b4, b5, b6, b7⟩ := h'
  have c1 := cum_bound y m a4
  have c2 := cum_bound y' m' b4
  have hy : y = y' := by
    rcases Int.lt_trichotomy y y' with h | h | h
    · have := opens_leap_le h; omega
    · exact h
    · have := opens_leap_le h; omega
  subst hy
  have hm : m = m' := by
    rcases Int.lt_trichotomy m m' with h | h | h
    · have := cum_lt (y := y) a3 h b4; omega
    · exact h
    · have := cum_lt (y := y) b3 h a4; omega
  subst hm
  exact ⟨rfl, rfl, by omega⟩

set_option maxHeartbeats 400000 in
theorem date_no (n : Int) (w : World) (h : n < -25567 ∨ 84370 < n) :
    Calls Tryd.prog 36 #[.int .i64 n] w fun e w' => e = .returned (.tuple #[.agg #[.int .i64 0, .int .i64 0, .int .i64 0], .int .i64 5]) ∧ Below w.heap.size w w' := by
  rcases h with h | h
  · go_enter Tryd.func36, Tryd.ntmps36
    go_wp2
    exact bodyPost_ret (v := .tuple #[.agg #[.int .i64 0, .int .i64 0, .int .i64 0], .int .i64 5]) (by simp [results, Tryd.results36, go_sem]) rfl ⟨rfl, (Below.refl _ _).alloc (Nat.le_refl _) _⟩
  · have h' : ¬ n < -25567 := by omega
    go_enter Tryd.func36, Tryd.ntmps36
    go_wp2
    exact bodyPost_ret (v := .tuple #[.agg #[.int .i64 0, .int .i64 0, .int .i64 0], .int .i64 5]) (by simp [results, Tryd.results36, go_sem]) rfl ⟨rfl, (Below.refl _ _).alloc (Nat.le_refl _) _⟩

set_option maxHeartbeats 1000000 in
theorem date_yes (n : Int) (w : World) (h1 : -25567 ≤ n) (h2 : n ≤ 84370) :
    Calls Tryd.prog 36 #[.int .i64 n] w fun e w' => ∃ y m d : Int, e = .returned (.tuple #[.agg #[.int .i64 y, .int .i64 m, .int .i64 d], .int .i64 0]) ∧ IsDate n y m d ∧ Below w.heap.size w w' := by
  go_enter Tryd.func36, Tryd.ntmps36
  go_wp2
  go_loop [4] (fun t => ∃ y : Int, 1900 ≤ y ∧ y ≤ 2200 ∧ opens y ≤ n ∧ t = .int .i64 y) (fun t => (2200 - intOf t).toNat)
  case atStart => exact ⟨_, by omega, by omega, by unfold opens; omega, rfl⟩
  case round =>
    obtain ⟨y, hy1, hy2, hy3, rfl⟩ := hrel
    by_cases hc : y < 2200 ∧ opens (y + 1) ≤ n
    · obtain ⟨hlt, hd⟩ := hc
      go_wp2_with (go_at_call 47; refine (opens_any _ _ (by omega) (by omega)).mono ?_; rintro e w' ⟨rfl, rfl⟩)
      go_round
      case rel => exact ⟨y + 1, by omega, by omega, hd, rfl⟩
      case measure => simp [intOf]; omega
    · have hz : n < opens (y + 1) := by
        by_cases e : y = 2200
        · subst e; unfold opens; omega
        · omega
      have ho : -25567 ≤ opens y ∧ opens (y + 1) ≤ opens y + 366 := by unfold opens; omega
      clear hc
      by_cases hlt : y < 2200
      all_goals
        go_wp2_with (go_at_call 47; refine (opens_any _ _ (by omega) (by omega)).mono ?_; rintro e w' ⟨rfl, rfl⟩)
        go_loop [5, 6] (fun r k => ∃ m : Int, 1 ≤ m ∧ m ≤ 12 ∧ k = .int .i64 m ∧ 0 ≤ n - opens y - cum y m ∧ r = .int .i64 (n - opens y - cum y m)) (fun _ k => (12 - intOf k).toNat)
        case atStart => exact ⟨1, by omega, by omega, rfl, by simp [cum]; omega, by simp [cum]⟩
        case round =>
          obtain ⟨m, hm1, hm2, rfl, hr, rfl⟩ := hrel
          have cb : 0 ≤ cum y m ∧ cum y m + mlen y m ≤ 366 := by have := cum_bound y m hm2; split at this <;> omega
          have db := mlen_bound y m
          have CS := Lib.hid (cum_succ y m hm1 hm2)
          by_cases hd : mlen y m ≤ n - opens y - cum y m
          · have hm : m < 12 := by
              by_cases e : m = 12
              · subst e
                have h12 := CS.out
                have h13 : cum y (12 + 1) = 365 + (if leap y then 1 else 0) := by simp [cum]
                have h14 := opens_succ y
                omega
              · omega
            go_wp2_with (go_at_call 48; refine (month_any _ _ _ (by omega)).mono ?_; rintro e w' ⟨rfl, rfl⟩)
            go_round
            case rel => exact ⟨m + 1, by omega, by omega, rfl, by rw [CS.out]; omega, by rw [CS.out]; go_num⟩
            case measure => simp [intOf]; omega
          · have hv : n - opens y - cum y m < mlen y m := by omega
            have HD := Lib.hid (IsDate.mk (n := n) (y := y) (m := m) (d := n - opens y - cum y m + 1) hy1 hy2 hm1 hm2 (by omega) (by omega) (by omega))
            clear hd
            go_wp2_with (go_at_call 48; refine (month_any _ _ _ (by omega)).mono ?_; rintro e w' ⟨rfl, rfl⟩)
            refine bodyPost_ret (v := .tuple #[.agg #[.int .i64 y, .int .i64 m, .int .i64 (n - opens y - cum y m + 1)], .int .i64 0]) (by simp [results, Tryd.results36, go_sem]) rfl ⟨y, m, _, rfl, HD.out, ?_⟩
            go_grown

/-! the reference's days -/
theorem rlong_any (y : Int) (w : World) (h0 : 0 ≤ y) :
    Calls Tryd.prog 72 #[.int .i64 y] w fun e w' => e = .returned (.bool (leap y)) ∧ w' = w := by
  go_enter Tryd.func72, Tryd.ntmps72
  go_wp2
  all_goals go_ret
  all_goals refine ⟨ret_bool ?_, rfl⟩
  all_goals go_light
  all_goals (unfold leap; grind)

def mtab (m : Int) : Int := if m = 4 ∨ m = 6 ∨ m = 9 ∨ m = 11 then 30 else if m = 2 then 28 else 31
theorem mtab_index (m : Int) (h : 1 ≤ m ∧ m ≤ 12) (w : World) : (Instr.index 111 (.agg #[.int .i64 31, .int .i64 28, .int .i64 31, .int .i64 30, .int .i64 31, .int .i64 30, .int .i64 31, .int .i64 31, .int .i64 30, .int .i64 31, .int .i64 30, .int .i64 31]) (.int .i64 (m - 1))).run Tryd.prog w = .ok (.int .i64 (mtab m)) w := by
  obtain rfl | rfl | rfl | rfl | rfl | rfl | rfl | rfl | rfl | rfl | rfl | rfl : m = 1 ∨ m = 2 ∨ m = 3 ∨ m = 4 ∨ m = 5 ∨ m = 6 ∨ m = 7 ∨ m = 8 ∨ m = 9 ∨ m = 10 ∨ m = 11 ∨ m = 12 := by omega
  all_goals kernel_rfl

set_option maxHeartbeats 1000000 in
set_option maxRecDepth 10000 in
theorem rmonth_any (y m : Int) (w : World) (h0 : 0 ≤ y) :
    Calls Tryd.prog 59 #[.int .i64 y, .int .i64 m] w fun e w' => e = .returned (.int .i64 (mlen y m)) ∧ Below w.heap.size w w' := by
  by_cases hm : 1 ≤ m ∧ m ≤ 12
  · have hix := mtab_index m hm
    obtain ⟨h1, h2⟩ := hm
    go_enter Tryd.func59, Tryd.ntmps59
    go_wp2_with (go_call (rlong_any _ _ h0) as _ _ ⟨rfl, rfl⟩)
    all_goals go_ret
    all_goals refine ⟨ret_i64 ?_, by go_grown⟩
    all_goals go_light
    all_goals grind [mlen, mtab]
  · go_enter Tryd.func59, Tryd.ntmps59
    go_wp2
    all_goals go_ret
    all_goals refine ⟨ret_i64 ?_, by go_grown⟩
    all_goals go_light
    all_goals grind [mlen]

theorem opens_four (y : Int) (h : y % 4 = 0) : opens (y + 4) = opens y + 1460 + (if leap y then 1 else 0) := by
  unfold opens leap
  split <;> rename_i h1 <;> simp at h1 <;> omega
theorem opens_within (y z : Int) (h : y % 4 = 0) (h1 : y - 4 < z) (h2 : z ≤ y) : opens z = opens y - 365 * (y - z) := by
  unfold opens; omega

set_option maxHeartbeats 1000000 in
theorem before_any (y : Int) (w : World) (h0 : 1900 ≤ y) (h1 : y ≤ 3000) :
    Calls Tryd.prog 58 #[.int .i64 y] w fun e w' => e = .returned (.int .i64 (opens y + 25567)) ∧ w' = w := by
  go_enter Tryd.func58, Tryd.ntmps58
  go_wp2
  go_loop [3, 4] (fun n t => ∃ k : Nat, 1900 + 4 * (k : Int) - 4 < y ∧ t = .int .i64 (1900 + 4 * (k : Int)) ∧ n = .int .i64 (opens (1900 + 4 * (k : Int)) + 25567 - 365 * (1900 + 4 * (k : Int) - y))) (fun _ t => (y - intOf t).toNat)
  case atStart => exact ⟨0, by omega, rfl, by unfold opens; go_num⟩
  case round =>
    obtain ⟨k, hk, rfl, rfl⟩ := hrel
    have CS := Lib.hid (opens_four (1900 + 4 * (k : Int)) (by omega))
    have ho : -25567 ≤ opens (1900 + 4 * (k : Int)) ∧ opens (1900 + 4 * (k : Int)) ≤ 2000000 := by unfold opens; omega
    by_cases hlt : 1900 + 4 * (k : Int) < y
    · go_wp2_with (go_call (rlong_any _ _ (by omega)) as _ _ ⟨rfl, rfl⟩)
      all_goals
        go_round
        case rel =>
          have e : (1900 + 4 * ((k + 1 : Nat) : Int)) = 1900 + 4 * (k : Int) + 4 := by omega
          have cs := CS.out
          go_light
          refine ⟨k + 1, by omega, by rw [e], ?_⟩
          rw [e, cs]
          first | (rw [if_pos (by assumption)]; go_num) | (rw [if_neg (by simp_all)]; go_num)
        case measure => simp [intOf]; omega
    · have hw := opens_within (1900 + 4 * (k : Int)) y (by omega) (by omega) (by omega)
      have HW := Lib.hid hw
      clear hw
      go_wp2
      go_ret
      refine ⟨ret_i64 ?_, rfl⟩
      rw [HW.out]; omega

set_option maxHeartbeats 400000 in
theorem ris_any (n : Int) (w : World) :
    Calls Tryd.prog 57 #[.int .i64 n] w fun e w' => e = .returned (.bool (decide (-25567 ≤ n ∧ n ≤ 84370))) ∧ w' = w := by
  go_enter Tryd.func57, Tryd.ntmps57
  go_wp2
  all_goals go_ret
  all_goals refine ⟨ret_bool ?_, rfl⟩
  all_goals go_light
  all_goals grind

set_option maxHeartbeats 1000000 in
theorem rdate_no (n : Int) (w : World) (h : n < -25567 ∨ 84370 < n) :
    Calls Tryd.prog 41 #[.int .i64 n] w fun e w' => e = .returned (.tuple #[.agg #[.int .i64 0, .int .i64 0, .int .i64 0], .int .i64 5]) ∧ Below w.heap.size w w' := by
  have hd : decide (-25567 ≤ n ∧ n ≤ 84370) = false := decide_eq_false (by omega)
  go_enter Tryd.func41, Tryd.ntmps41
  go_wp2_with (go_call (ris_any _ _) as _ _ ⟨rfl, rfl⟩)
  go_returns
  exact ⟨rfl, by go_grown⟩

set_option maxHeartbeats 4000000 in
set_option maxRecDepth 100000 in
theorem rdate_yes (n : Int) (w : World) (h1 : -25567 ≤ n) (h2 : n ≤ 84370) :
    Calls Tryd.prog 41 #[.int .i64 n] w fun e w' => ∃ y m d : Int, e = .returned (.tuple #[.agg #[.int .i64 y, .int .i64 m, .int .i64 d], .int .i64 0]) ∧ IsDate n y m d ∧ Below w.heap.size w w' := by
  have hd : decide (-25567 ≤ n ∧ n ≤ 84370) = true := decide_eq_true (by omega)
  go_enter Tryd.func41, Tryd.ntmps41
  go_wp2_with (go_call (ris_any _ _) as _ _ ⟨rfl, rfl⟩)
  go_loopg [16] (2200 - (1900 + (n + 25567) / 366)).toNat (fun k _ wr => ∃ y : Int, k = (2200 - y).toNat ∧ 1900 ≤ y ∧ y ≤ 2200 ∧ opens y ≤ n ∧ Blk wr w.heap.size #[.int .i64 0, .int .i64 0, .int .i64 0] 72 ∧ Blk wr (w.heap.size + 1) #[.int .i64 y, .int .i64 1, .int .i64 0] 72 ∧ Below w.heap.size w wr)
  case atStart => exact ⟨_, rfl, by omega, by omega, by unfold opens; omega, (Blk.new _ _ _).alloc _, by have := Blk.new (w.alloc (.cells #[.int .i64 0, .int .i64 0, .int .i64 0] 72)) #[.int .i64 (1900 + (n + 25567) / 366), .int .i64 1, .int .i64 0] 72; simpa using this, by go_grown⟩
  case round =>
    obtain ⟨y, HK, hy1, hy2, hy3, B1, B2, HB⟩ := hrel
    have HK' := Lib.hid HK
    clear HK
    have c0 := B2.cell 0 _ rfl
    have f0 := B2.frozen 0
    have ho : -25567 ≤ opens y ∧ opens (y + 1) ≤ opens y + 366 := by unfold opens; omega
    by_cases hc : opens (y + 1) ≤ n
    · have hlt : y < 2200 := by
        by_cases e : y = 2200
        · subst e; unfold opens at hc; omega
        · omega
      go_wp2_with (go_call (before_any _ _ (by omega) (by omega)) as _ wr ⟨rfl, rfl⟩)
      go_roundg (2200 - (y + 1)).toNat
      case measure => have := HK'.out; omega
      case rel => exact ⟨y + 1, rfl, by omega, by omega, hc, B1.far (by simp) _, B2.set 0 _, by go_grown⟩
    · have hz : n < opens (y + 1) := by omega
      clear hc
      go_wp2_with (go_call (before_any _ _ (by omega) (by omega)) as _ wr ⟨rfl, rfl⟩)
      go_loopg [4] 11 (fun k v4 wr => ∃ m : Int, k = (12 - m).toNat ∧ 1 ≤ m ∧ m ≤ 12 ∧ 0 ≤ n - opens y - cum y m ∧ v4 = .int .i64 (n - opens y - cum y m) ∧ Blk wr w.heap.size #[.int .i64 0, .int .i64 0, .int .i64 0] 72 ∧ Blk wr (w.heap.size + 1) #[.int .i64 y, .int .i64 m, .int .i64 0] 72 ∧ Below w.heap.size w wr)
      case atStart => exact ⟨1, by omega, by omega, by omega, by simp [cum]; omega, by simp [cum]; omega, B1, B2, HB⟩
      case round =>
        obtain ⟨m, HK, hm1, hm2, hr, rfl, B1, B2, HB⟩ := hrel
        have HK2 := Lib.hid HK
        clear HK c0 f0
        have HB' := Lib.hid HB
        have cb : 0 ≤ cum y m ∧ cum y m + mlen y m ≤ 366 := by have := cum_bound y m hm2; split at this <;> omega
        have db := mlen_bound y m
        have CS := Lib.hid (cum_succ y m hm1 hm2)
        have c0 := B2.cell 0 _ rfl
        have c1 := B2.cell 1 _ rfl
        have c2 := B2.cell 2 _ rfl
        by_cases hd : mlen y m ≤ n - opens y - cum y m
        · have hm : m < 12 := by
            by_cases e : m = 12
            · subst e
              have h12 := CS.out
              have h13 : cum y (12 + 1) = 365 + (if leap y then 1 else 0) := by simp [cum]
              have h14 := opens_succ y
              omega
            · omega
          go_wp2_with fail
          go_call (rmonth_any _ _ _ (by omega)) as _ w1 ⟨rfl, hb1⟩
          replace B1 := B1.below hb1
          replace B2 := B2.below hb1
          have d0 := B2.cell 0 _ rfl
          have d1 := B2.cell 1 _ rfl
          have d2 := B2.cell 2 _ rfl
          go_wp2_with fail
          go_call (rmonth_any _ _ _ (by omega)) as _ w2 ⟨rfl, hb2⟩
          replace B1 := B1.below hb2
          replace B2 := B2.below hb2
          have e0 := B2.cell 0 _ rfl
          have e1 := B2.cell 1 _ rfl
          have f1 := B2.frozen 1
          go_wp2
          go_roundg (12 - (m + 1)).toNat
          case measure => have := HK2.out; omega
          case rel => exact ⟨m + 1, rfl, by omega, by omega, by rw [CS.out]; omega, by rw [CS.out]; go_num, B1.far (by simp) _, B2.set 1 _, (below_self (below_self HB hb1) hb2).setCell (by simp) _⟩
        · have hv : n - opens y - cum y m < mlen y m := by omega
          have HD := Lib.hid (IsDate.mk (n := n) (y := y) (m := m) (d := n - opens y - cum y m + 1) hy1 hy2 hm1 hm2 (by omega) (by omega) (by omega))
          clear hd
          go_wp2_with fail
          go_call (rmonth_any _ _ _ (by omega)) as _ w1 ⟨rfl, hb1⟩
          replace B1 := B1.below hb1
          replace B2 := B2.below hb1
          have d0 := B2.cell 0 _ rfl
          have d1 := B2.cell 1 _ rfl
          have d2 := B2.cell 2 _ rfl
          have f2 := B2.frozen 2
          have HB1 := below_self HB hb1
          replace B1 := B1.far (p := ⟨w.heap.size + 1, 2, none⟩) (by simp) (.int .i64 (n - opens y - cum y m + 1))
          replace B2 := B2.set 2 (.int .i64 (n - opens y - cum y m + 1))
          go_wp2_with (first
            | (refine load_blk B2 rfl rfl rfl Tryd.underlying72 rfl (by kernel_rfl) ?_)
            | (refine store_blk B1 rfl rfl rfl rfl (by kernel_rfl) rfl rfl ?_; intro w2 hw2 B1'))
          refine bodyPost_ret (results_ct rfl rfl B1' Tryd.underlying72 rfl (by kernel_rfl)) rfl ⟨y, m, _, rfl, HD.out, hw2.below (HB1.setCell (by simp) _) (by simp)⟩

end Go.Proofs.YtkafeedmmghoeaaDoor.civ
