/- WALKS: is a copy of a list of instalments, and the room behind it, as it was? -/
import Derived.Test.YtkafeedmmghoeaaDoorOwn
import Derived.Test.YtkafeedmmghoeaaDoorLinesW
namespace Go.Proofs.YtkafeedmmghoeaaDoor.sam
open Go.RowKit Go.Lib base dec bld lin txt

set_option maxHeartbeats 2000000 in
set_option maxRecDepth 100000 in
theorem kept_any (ds : List Due) (g : Nat) (B : Option Addr) (cb : Nat) (hn : ds.length ≤ 1000) (w : World) (ha : DuesAt w (some ⟨g, 0, none⟩) (ds ++ [f71, f71, f71])) (hb : DuesAt w B ds) :
    Calls Tryd.prog 9 #[.slice (some ⟨g, 0, none⟩) ds.length (ds.length + 3), .slice B ds.length cb, .agg #[.int .i64 71, .int .i64 0, .int .i64 0, .int .i64 0]] w fun e w' => e = .returned (.bool true) ∧ Below w.heap.size w w' := by
  have HA := Lib.hid (range_of_dues ha)
  have HP := Lib.hid (dues_left ha)
  have HB := Lib.hid hb
  clear ha hb
  have B0 : Blk (w.alloc (.cells #[.int .i64 71, .int .i64 0, .int .i64 0, .int .i64 0] 28)) w.heap.size #[.int .i64 71, .int .i64 0, .int .i64 0, .int .i64 0] 28 := Blk.new _ _ _
  have hB0 : Below w.heap.size w (w.alloc (.cells #[.int .i64 71, .int .i64 0, .int .i64 0, .int .i64 0] 28)) := (Below.refl _ _).alloc (Nat.le_refl _) _
  go_enter Tryd.func9, Tryd.ntmps9
  go_wp2_with fail
  go_call (plain_any ds _ B _ cb hn _ (DuesAt.below HP.out hB0) (DuesAt.below HB.out hB0)) as _ w1 ⟨rfl, hb1⟩
  have hb2 := below_self hB0 hb1
  have B2 := B0.below hb1
  clear hB0 B0 hb1
  go_wp2
  go_loopg [8] 3 (fun k v8 wr => ∃ j : Nat, k = 3 - j ∧ j ≤ 3 ∧ v8 = .int .i64 ((ds.length + j : Nat) : Int) ∧ Below w.heap.size w wr ∧ Blk wr w.heap.size #[.int .i64 71, .int .i64 0, .int .i64 0, .int .i64 0] 28)
  case atStart => exact ⟨0, by omega, by omega, rfl, hb2, B2⟩
  case round =>
    clear hb2 B2
    obtain ⟨j, hk, hj, rfl, hb2, B2⟩ := hrel
    have HK := Lib.hid hk
    clear hk
    by_cases hlt : j < 3
    · have hel : (ds ++ [f71, f71, f71])[ds.length + j]? = some f71 := by
        rw [List.getElem?_append_right (by omega), Nat.add_sub_cancel_left]
        match j, hlt with
        | 0, _ => rfl
        | 1, _ => rfl
        | 2, _ => rfl
      obtain ⟨h0, h1, h2, h3⟩ := fl_get _ _ _ hel
      have g0 := cell_below hb2 (HA.out _ _ h0)
      have g1 := cell_below hb2 (HA.out _ _ h1)
      have g2 := cell_below hb2 (HA.out _ _ h2)
      have g3 := cell_below hb2 (HA.out _ _ h3)
      have e0 := B2.cell 0 (.int .i64 71) rfl
      have e1 := B2.cell 1 (.int .i64 0) rfl
      have e2 := B2.cell 2 (.int .i64 0) rfl
      have e3 := B2.cell 3 (.int .i64 0) rfl
      rw [Nat.zero_add] at g0 g1 g2 g3
      simp only [f71] at g0 g1 g2 g3
      clear h0 h1 h2 h3 hel
      go_wp2
      go_region
      go_wp2
      go_roundg (3 - (j + 1))
      case measure => have := HK.out; omega
      case rel => exact ⟨j + 1, rfl, by omega, by go_num, by first | assumption | exact below_drewN hb2 1, by first | assumption | exact B2.drew⟩
    · have hj3 : j = 3 := by omega
      subst hj3
      go_wp2
      go_ret
      exact ⟨rfl, hb2⟩
end Go.Proofs.YtkafeedmmghoeaaDoor.sam
