/- WALKS: numbers, money and days as texts, the program's and the reference's. -/
import Derived.Test.YtkafeedmmghoeaaDoorCivil
import Derived.Test.YtkafeedmmghoeaaDoorShelf
import Derived.Lib.AppendIntMem
import Derived.Lib.ItoaLen
import Derived.Laws.IdiomStrings
import Derived.Deep.RegionHeld3
namespace Go.Proofs.YtkafeedmmghoeaaDoor.dec
open Go.RowKit Go.Lib Go.Sort base civ

/-- what strconv reads of memory -/
def Tab (w : World) : Prop := Lib.TabIs Tryd.prog w "internal/strconv.uint64pow10" .u64 Lib.pow10Tab
theorem Tab.below {w w1 : World} (h : Tab w) (hb : RowKit.Below w.heap.size w w1) : Tab w1 := tabBelow_of_tabIs h w1 hb
theorem Tab.alloc {w : World} (h : Tab w) (o : Obj) : Tab (w.alloc o) := Lib.tabIs_alloc h o

theorem ret_t2 {a b a' b' : Value} (h1 : a = a') (h2 : b = b') : Ending.returned (.tuple #[a, b]) = .returned (.tuple #[a', b']) := by rw [h1, h2]
theorem ret_t3 {a b c a' b' c' : Value} (h1 : a = a') (h2 : b = b') (h3 : c = c') : Ending.returned (.tuple #[a, b, c]) = .returned (.tuple #[a', b', c']) := by rw [h1, h2, h3]
theorem cat_str (a b : List UInt8) : (⟨a.toArray⟩ : ByteArray) ++ ⟨b.toArray⟩ = ⟨(a ++ b).toArray⟩ := by
  apply ByteArray.ext
  simp

set_option maxHeartbeats 400000 in
theorem itoa_any (n : Int) (h0 : -9223372036854775808 ≤ n) (h1 : n ≤ 9223372036854775807) (w : World) (ht : Tab w) :
    Calls Tryd.prog 14 #[.int .i64 n] w fun e w' => e = .returned (.string ⟨(Lib.itoa n).toArray⟩) ∧ RowKit.Below w.heap.size w w' := by
  refine (Tryd.strconv_Itoa n h0 h1 w ht).mono ?_
  rintro e w' ⟨rfl, k, os, rfl⟩
  exact ⟨rfl, below_grow _ _ (Nat.le_refl _) _ _⟩

theorem itoa_one (n : Int) (h0 : 0 ≤ n) (h1 : n ≤ 9) : Lib.itoa n = [UInt8.ofNat (48 + n.toNat)] := by
  obtain ⟨u, rfl⟩ := Int.eq_ofNat_of_zero_le h0
  rw [itoa_nonneg, decDigits_one (by omega)]
  simp

/-- a number of two digits -/
def twoL (n : Int) : List UInt8 := Lib.itoa (n / 10) ++ Lib.itoa (n % 10)
theorem twoL_len (n : Int) (h0 : 0 ≤ n) (h1 : n ≤ 99) : (twoL n).length ≤ 42 := by
  have l1 : (Lib.itoa (n / 10)).length ≤ 21 := itoa_length_le _ (by omega) (by omega)
  have l2 : (Lib.itoa (n % 10)).length ≤ 21 := itoa_length_le _ (by omega) (by omega)
  unfold twoL
  rw [List.length_append]
  omega
set_option maxHeartbeats 400000 in
theorem two_any (n : Int) (h0 : 0 ≤ n) (h1 : n ≤ 99) (w : World) (ht : Tab w) :
    Calls Tryd.prog 37 #[.int .i64 n] w fun e w' => e = .returned (.string ⟨(twoL n).toArray⟩) ∧ RowKit.Below w.heap.size w w' := by
  have l1 : (Lib.itoa (n / 10)).length ≤ 21 := itoa_length_le _ (by omega) (by omega)
  have l2 : (Lib.itoa (n % 10)).length ≤ 21 := itoa_length_le _ (by omega) (by omega)
  have hcat := cat_str
  go_enter Tryd.func37, Tryd.ntmps37
  go_wp2_with fail
  go_call (itoa_any _ (by omega) (by omega) _ ht) as _ w1 ⟨rfl, hb1⟩
  go_wp2_with fail
  go_call (itoa_any _ (by omega) (by omega) _ (ht.below hb1)) as _ w2 ⟨rfl, hb2⟩
  go_wp2
  go_ret
  exact ⟨rfl, below_self hb1 hb2⟩

/-- the text of a day -/
def dateL (y m d : Int) : List UInt8 := Lib.itoa y ++ 45 :: (twoL m ++ 45 :: twoL d)

set_option maxHeartbeats 1000000 in
theorem text_no (n : Int) (w : World) (h : n < -25567 ∨ 84370 < n) :
    Calls Tryd.prog 23 #[.int .i64 n] w fun e w' => e = .returned (.tuple #[.string ⟨([] : List UInt8).toArray⟩, .int .i64 5]) ∧ RowKit.Below w.heap.size w w' := by
  go_enter Tryd.func23, Tryd.ntmps23
  go_wp2_with fail
  go_call (date_no n _ h) as _ w1 ⟨rfl, hb1⟩
  have hs := hb1.size
  go_wp2
  go_ret2
  exact ⟨rfl, by go_grown⟩

set_option maxHeartbeats 4000000 in
theorem text_yes (n : Int) (w : World) (ht : Tab w) (h1 : -25567 ≤ n) (h2 : n ≤ 84370) :
    Calls Tryd.prog 23 #[.int .i64 n] w fun e w' => (∃ y m d, IsDate n y m d ∧ e = .returned (.tuple #[.string ⟨(dateL y m d).toArray⟩, .int .i64 0])) ∧ RowKit.Below w.heap.size w w' := by
  go_enter Tryd.func23, Tryd.ntmps23
  go_wp2_with fail
  go_call (date_yes n _ h1 h2) as _ w1 ⟨y, m, d, rfl, hd, hb1⟩
  have hcat := cat_str
  have hy : 1900 ≤ y ∧ y ≤ 2200 := ⟨hd.y0, hd.y1⟩
  have hm : 1 ≤ m ∧ m ≤ 12 := ⟨hd.m0, hd.m1⟩
  have hdd : 1 ≤ d ∧ d ≤ 31 := ⟨hd.d0, by have := hd.d1; have := mlen_bound y m; omega⟩
  have l0 : (Lib.itoa y).length ≤ 21 := itoa_length_le _ (by omega) (by omega)
  have l1 := twoL_len m (by omega) (by omega)
  have l2 := twoL_len d (by omega) (by omega)
  have q1 : ¬ 9223372036854775807 < (Lib.itoa y).length + 1 := by omega
  have q2 : ¬ 9223372036854775807 < (Lib.itoa y).length + 1 + (twoL m).length := by omega
  have q3 : ¬ 9223372036854775807 < (Lib.itoa y).length + ((twoL m).length + 1) + 1 := by omega
  have q4 : ¬ 9223372036854775807 < (Lib.itoa y).length + ((twoL m).length + 1 + 1) + (twoL d).length := by omega
  have HD := Lib.hid hd
  clear hd
  have hs := hb1.size
  have hbl := hb1.alloc hs (.cells #[.int .i64 y, .int .i64 m, .int .i64 d] 72)
  have htl := (ht.below hb1).alloc (.cells #[.int .i64 y, .int .i64 m, .int .i64 d] 72)
  go_wp2_with fail
  go_region_held3 (fun w' => w'.cell? ⟨w1.heap.size, 0, none⟩ = some (.int .i64 y) ∧ w'.cell? ⟨w1.heap.size, 1, none⟩ = some (.int .i64 m) ∧ w'.cell? ⟨w1.heap.size, 2, none⟩ = some (.int .i64 d) ∧ Tab w' ∧ RowKit.Below w.heap.size w w')
    (((try go_split_ands); (try dsimp only); (repeat' apply And.intro) <;> (first | (exact htl) | (exact hbl.drew) | (exact cell_below hb (by assumption)) | (exact Tab.below (by assumption) hb) | (exact below_self (by assumption) hb) | go_keep)))
    (first
      | (go_at_call 14; go_split_ands; refine (itoa_any _ (by omega) (by omega) _ (by assumption)).mono ?_; rintro e w' ⟨rfl, hb⟩)
      | (go_at_call 37; go_split_ands; refine (two_any _ (by omega) (by omega) _ (by assumption)).mono ?_; rintro e w' ⟨rfl, hb⟩))
  go_wp2
  go_ret2
  exact ⟨⟨y, m, d, HD.out, rfl⟩, below_self (by assumption) hb⟩

/-! ### unsigned numbers -/
theorem holds_zero0 (w : World) (T : TypeId) (nd : Nat) (hs : nd ≤ 24) : Holds (fun (b : UInt8) => Value.int .u8 (b.toNat : Int)) (w.alloc (.cells Lib.zeros24 T)) w.heap.size 0 (Array.replicate nd (0 : UInt8)) := fun j hj => by
  have hj' : j < nd := by simpa using hj
  refine ⟨?_, World.frozen?_alloc_new _ _ _ _⟩
  rw [World.cell?_alloc_new, Nat.zero_add, zeros24_at _ (by omega), getElem!_pos _ j hj]
  simp

theorem fin_zero (w : World) (o : Obj) (dk : Array UInt8) (k : Nat) : ∃ os, (putRow (fun (b : UInt8) => Value.int .u8 (b.toNat : Int)) (w.alloc o) w.heap.size 0 dk).drewN k = grow (w.drewN k) os := by
  rw [alloc_eq_grow]
  obtain ⟨os', _, e⟩ := putRow_grow_new (fun (b : UInt8) => Value.int .u8 (b.toNat : Int)) w #[o] w.heap.size 0 dk (Nat.le_refl _)
  exact ⟨os', by rw [e]; rfl⟩
set_option maxHeartbeats 6400000 in
set_option maxRecDepth 100000 in
theorem ifmtu_any (u : Nat) (hu64 : u < 18446744073709551616) (w : World) (htab : Tab w) :
    Calls Tryd.prog 49 #[.int .u64 u, .int .i64 10] w fun e w' => e = .returned (.string ⟨(Lib.decDigits u).toArray⟩) ∧ RowKit.Below w.heap.size w w' := by
  by_cases hs : u < 100
  · go_enter Tryd.func49, Tryd.ntmps49
    go_wp2_with fail
    go_call (Tryd.internal_strconv_small u hs _) as _ w1 ⟨rfl, rfl⟩
    go_wp2
    go_ret
    exact ⟨rfl, by go_grown⟩
  · have hu1 : 1 ≤ u := by omega
    have hnd20 : Lib.nDigits u ≤ 20 := by have := Lib.numDigits_eq u hu1 hu64; split at this <;> omega
    have hb3 : Lib.nDigits u ≤ 23 := by omega
    have hal : Tryd.prog.arrayLen 93 = 24 := by kernel_rfl
    have hsl1 : ∀ W, (Instr.sliceAt 93 (.pointer (some ⟨w.heap.size, 0, none⟩)) none (some (.int .i64 (Lib.nDigits u : Int))) none).run Tryd.prog W = .ok (.slice (some ⟨w.heap.size, 0, none⟩) (Lib.nDigits u) 24) W := fun W => by
      rw [run_sliceAt_array_h W 93 ⟨w.heap.size, 0, none⟩ (by kernel_rfl) .i64 (Lib.nDigits u : Int) (by omega) (by rw [hal]; omega)]
      go_simp
    have hH0 := holds_zero0 w 93 (Lib.nDigits u) (by omega)
    have hfmt := Tryd.internal_strconv_formatBase10 w.heap.size 0 24 u (Array.replicate (Lib.nDigits u) 0) (w.alloc (.cells Lib.zeros24 93)) hH0 (by rw [Array.size_replicate]; exact Lib.lt_pow_nDigits u) hu64 (by rw [Array.size_replicate]; omega)
    rw [Array.size_replicate] at hfmt
    have HH0 := Lib.hid hH0
    clear hH0 hal
    go_enter Tryd.func49, Tryd.ntmps49
    go_wp2_with (first
      | (go_at_call 54; refine (Tryd.internal_strconv_numDigits u hu1 hu64 _ (Lib.tabIs_alloc htab _)).mono ?_; rintro e w' ⟨rfl, rfl⟩))
    go_at_call 55
    refine hfmt.mono ?_
    rintro e w' ⟨rfl, k, v', dk, rfl, hF⟩
    have hcv : (convert 40 9 (.slice (some ⟨w.heap.size, 0, none⟩) (Lib.nDigits u) 24)).run Tryd.prog ((putRow (fun (b : UInt8) => Value.int .u8 (b.toNat : Int)) (w.alloc (.cells Lib.zeros24 93)) w.heap.size 0 dk).drewN k) = .ok (.string ⟨(Lib.decDigits u).toArray⟩) ((putRow (fun (b : UInt8) => Value.int .u8 (b.toNat : Int)) (w.alloc (.cells Lib.zeros24 93)) w.heap.size 0 dk).drewN k) := by
      have h := run_convert_bytes_back (P := Tryd.prog) ((putRow (fun (b : UInt8) => Value.int .u8 (b.toNat : Int)) (w.alloc (.cells Lib.zeros24 93)) w.heap.size 0 dk).drewN k) 40 9 5 ⟨w.heap.size, 0, none⟩ 24 (Lib.decDigits u) Tryd.underlying40 Tryd.underlying5 Tryd.underlying9 (fun j hj => by
        rw [Lib.row_is_numeral hF j hj, Lib.add_plain, World.cell?_drewN]
        exact cell?_putRow (fun (b : UInt8) => Value.int .u8 (b.toNat : Int)) _ w.heap.size 0 _ dk HH0.out (by rw [hF.size, Array.size_replicate]) j (by rw [hF.size]; rw [Lib.decDigits_length] at hj; exact hj))
      rw [Lib.decDigits_length] at h
      exact h
    go_wp2
    go_ret
    obtain ⟨os, eo⟩ := fin_zero w (.cells Lib.zeros24 93) dk k
    refine ⟨rfl, ?_⟩
    rw [eo]
    exact below_grow _ _ (Nat.le_refl _) _ _

set_option maxHeartbeats 400000 in
theorem fmtu_any (u : Nat) (hu64 : u < 18446744073709551616) (w : World) (htab : Tab w) :
    Calls Tryd.prog 38 #[.int .u64 u, .int .i64 10] w fun e w' => e = .returned (.string ⟨(Lib.decDigits u).toArray⟩) ∧ RowKit.Below w.heap.size w w' := by
  go_enter Tryd.func38, Tryd.ntmps38
  go_wp2_with fail
  go_call (ifmtu_any u hu64 _ htab) as _ w1 ⟨rfl, hb⟩
  go_wp2
  go_ret
  exact ⟨rfl, hb⟩
end Go.Proofs.YtkafeedmmghoeaaDoor.dec
