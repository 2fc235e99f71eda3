/- THE WALK of the statement on a statement's text. -/
import Derived.Test.YtkafeedmmghoeaaDoorKept
namespace Go.Proofs.YtkafeedmmghoeaaDoor.lns
open Go.RowKit Go.Lib base dec bld lin txt awk sam

theorem dues_stored {w w1 : World} {b g : Nat} {ds : List Due} (h : DuesAt w (some ⟨g, 0, none⟩) ds) (S : StoredAt w b w1) (hne : g ≠ b) : DuesAt w1 (some ⟨g, 0, none⟩) ds := by
  refine dues_of_range fun j v hv => ?_
  have := range_of_dues h j v hv
  rw [← this]
  exact World.cell?_of_block (S.other g hne)

set_option maxHeartbeats 8000000 in
set_option maxRecDepth 100000 in
theorem texts_any (s : St) (A : Option Addr) (c : Nat) (hn0 : s.dues.length ≤ 9223372036854775807) (hA : A = none → c = 0) (hf : StFit s) (w : World) (hd : DuesAt w A s.dues) (ht : Tab w) :
    Calls Tryd.prog 3 #[.agg #[.int .i64 s.day, .bool s.opn, .bool s.cld, .int .i64 s.prin, .int .i64 s.acc, .int .i64 s.int, .int .i64 s.due, .int .i64 s.pen, .int .i64 s.fees, .int .i64 s.una, .slice A s.dues.length c, .int .i64 s.next, .int .i64 s.nday]] w fun e w' => e = .returned (.bool true) ∧ Below w.heap.size w w' := by
  have HF := Lib.hid hf
  have HD := Lib.hid hd
  have HT := Lib.hid ht
  clear hf hd ht
  have B0 : Box w (w.alloc (.cells (cells s A c) 24)) (cells s A c) := ⟨by go_grown, Blk.new _ _ _⟩
  by_cases hn : 60 < s.dues.length
  · go_enter Tryd.func3, Tryd.ntmps3
    go_wp2_with fail
    go_call (awake_any _ (HT.out.below B0.below)) as _ w1 ⟨rfl, hb⟩
    go_wp2
    go_ret
    exact ⟨rfl, (B0.pure hb).below⟩
  · have hn100 : s.dues.length ≤ 100 := by omega
    have hn1000 : s.dues.length ≤ 1000 := by omega
    have B1 : Blk ((w.alloc (.cells (cells s A c) 24)).alloc (.cells #[.int .i64 0, .bool false, .bool false, .int .i64 0, .int .i64 0, .int .i64 0, .int .i64 0, .int .i64 0, .int .i64 0, .int .i64 0, .slice none 0 0, .int .i64 0, .int .i64 0] 24)) (w.heap.size + 1) #[.int .i64 0, .bool false, .bool false, .int .i64 0, .int .i64 0, .int .i64 0, .int .i64 0, .int .i64 0, .int .i64 0, .int .i64 0, .slice none 0 0, .int .i64 0, .int .i64 0] 24 := by
      have := Blk.new (w.alloc (.cells (cells s A c) 24)) #[.int .i64 0, .bool false, .bool false, .int .i64 0, .int .i64 0, .int .i64 0, .int .i64 0, .int .i64 0, .int .i64 0, .int .i64 0, .slice none 0 0, .int .i64 0, .int .i64 0] 24
      simpa using this
    have R1 := B0.alloc (.cells #[.int .i64 0, .bool false, .bool false, .int .i64 0, .int .i64 0, .int .i64 0, .int .i64 0, .int .i64 0, .int .i64 0, .int .i64 0, .slice none 0 0, .int .i64 0, .int .i64 0] 24)
    go_enter Tryd.func3, Tryd.ntmps3
    go_upto_region 4 with (first
      | (refine load_blk B0.box rfl rfl rfl Tryd.underlying24 rfl (by kernel_rfl) ?_)
      | (refine store_blk B1 rfl rfl rfl rfl (by kernel_rfl) rfl rfl ?_; intro w2 hw2 B2))
    have R2 : Box w w2 (cells s A c) := ⟨hw2.below R1.below (Nat.le_succ _), hw2.blk R1.box (by omega)⟩
    have c10 := R2.box.cell 10 (.slice A s.dues.length c) rfl
    have HS2 := Lib.hid hw2.size
    clear hw2 B1 R1 B0
    go_wp2_with fail
    refine (own_any s.dues A c (by omega) hA _ (DuesAt.below HD.out R2.below)).mono ?_
    rintro _ w3 ⟨g, rfl, hg, hb3, hdg⟩
    have B3 := B2.below hb3
    have R3 := R2.pure hb3
    have k10 := B3.cell 10 (.slice A s.dues.length c) rfl
    have fz := B3.frozen 10
    have hgb : w.heap.size + 1 < g := Nat.lt_of_lt_of_le B2.lt hg
    have HDG := Lib.hid hdg
    clear hdg hb3 B2 R2 c10
    go_upto_region 5 with (fail)
    have S4 := setCells_stored w3 (w.heap.size + 1) 10 [.slice (some ⟨g, 0, none⟩) s.dues.length (s.dues.length + 3)]
    have B4 := B3.set 10 (.slice (some ⟨g, 0, none⟩) s.dues.length (s.dues.length + 3))
    obtain ⟨w4, hw4⟩ : ∃ w4, w4 = w3.setCell ⟨w.heap.size + 1, 10, none⟩ (.slice (some ⟨g, 0, none⟩) s.dues.length (s.dues.length + 3)) := ⟨_, rfl⟩
    rw [← hw4] at B4 ⊢
    replace S4 : StoredAt w3 (w.heap.size + 1) w4 := by rw [hw4]; exact S4
    have R4 : Box w w4 (cells s A c) := ⟨S4.below R3.below (Nat.le_succ _), S4.blk R3.box (by omega)⟩
    have D4 := dues_stored HDG.out S4 (by omega)
    have hbel := R4.below
    clear hw4 S4 B3 R3 k10 fz HDG
    · 
      have p0 := R4.box.cell 0 (.int .i64 s.day) rfl
      have p1 := R4.box.cell 1 (.bool s.opn) rfl
      have p2 := R4.box.cell 2 (.bool s.cld) rfl
      have p3 := R4.box.cell 3 (.int .i64 s.prin) rfl
      have p4 := R4.box.cell 4 (.int .i64 s.acc) rfl
      have p5 := R4.box.cell 5 (.int .i64 s.int) rfl
      have p6 := R4.box.cell 6 (.int .i64 s.due) rfl
      have p7 := R4.box.cell 7 (.int .i64 s.pen) rfl
      have p8 := R4.box.cell 8 (.int .i64 s.fees) rfl
      have p9 := R4.box.cell 9 (.int .i64 s.una) rfl
      have p10 := R4.box.cell 10 (.slice A s.dues.length c) rfl
      have p11 := R4.box.cell 11 (.int .i64 s.next) rfl
      have p12 := R4.box.cell 12 (.int .i64 s.nday) rfl
      have q0 := B4.cell 0 (.int .i64 s.day) rfl
      have q1 := B4.cell 1 (.bool s.opn) rfl
      have q2 := B4.cell 2 (.bool s.cld) rfl
      have q3 := B4.cell 3 (.int .i64 s.prin) rfl
      have q4 := B4.cell 4 (.int .i64 s.acc) rfl
      have q5 := B4.cell 5 (.int .i64 s.int) rfl
      have q6 := B4.cell 6 (.int .i64 s.due) rfl
      have q7 := B4.cell 7 (.int .i64 s.pen) rfl
      have q8 := B4.cell 8 (.int .i64 s.fees) rfl
      have q9 := B4.cell 9 (.int .i64 s.una) rfl
      have q10 := B4.cell 10 (.slice (some ⟨g, 0, none⟩) s.dues.length (s.dues.length + 3)) rfl
      have q11 := B4.cell 11 (.int .i64 s.next) rfl
      have q12 := B4.cell 12 (.int .i64 s.nday) rfl
      go_region_held3 (fun w' => (w'.cell? ⟨w.heap.size, 0, none⟩ = some (.int .i64 s.day) ∧ w'.cell? ⟨w.heap.size, 1, none⟩ = some (.bool s.opn) ∧ w'.cell? ⟨w.heap.size, 2, none⟩ = some (.bool s.cld) ∧ w'.cell? ⟨w.heap.size, 3, none⟩ = some (.int .i64 s.prin) ∧ w'.cell? ⟨w.heap.size, 4, none⟩ = some (.int .i64 s.acc) ∧ w'.cell? ⟨w.heap.size, 5, none⟩ = some (.int .i64 s.int) ∧ w'.cell? ⟨w.heap.size, 6, none⟩ = some (.int .i64 s.due) ∧ w'.cell? ⟨w.heap.size, 7, none⟩ = some (.int .i64 s.pen) ∧ w'.cell? ⟨w.heap.size, 8, none⟩ = some (.int .i64 s.fees) ∧ w'.cell? ⟨w.heap.size, 9, none⟩ = some (.int .i64 s.una) ∧ w'.cell? ⟨w.heap.size, 10, none⟩ = some (.slice A s.dues.length c) ∧ w'.cell? ⟨w.heap.size, 11, none⟩ = some (.int .i64 s.next) ∧ w'.cell? ⟨w.heap.size, 12, none⟩ = some (.int .i64 s.nday)) ∧ (w'.cell? ⟨w.heap.size + 1, 0, none⟩ = some (.int .i64 s.day) ∧ w'.cell? ⟨w.heap.size + 1, 1, none⟩ = some (.bool s.opn) ∧ w'.cell? ⟨w.heap.size + 1, 2, none⟩ = some (.bool s.cld) ∧ w'.cell? ⟨w.heap.size + 1, 3, none⟩ = some (.int .i64 s.prin) ∧ w'.cell? ⟨w.heap.size + 1, 4, none⟩ = some (.int .i64 s.acc) ∧ w'.cell? ⟨w.heap.size + 1, 5, none⟩ = some (.int .i64 s.int) ∧ w'.cell? ⟨w.heap.size + 1, 6, none⟩ = some (.int .i64 s.due) ∧ w'.cell? ⟨w.heap.size + 1, 7, none⟩ = some (.int .i64 s.pen) ∧ w'.cell? ⟨w.heap.size + 1, 8, none⟩ = some (.int .i64 s.fees) ∧ w'.cell? ⟨w.heap.size + 1, 9, none⟩ = some (.int .i64 s.una) ∧ w'.cell? ⟨w.heap.size + 1, 10, none⟩ = some (.slice (some ⟨g, 0, none⟩) s.dues.length (s.dues.length + 3)) ∧ w'.cell? ⟨w.heap.size + 1, 11, none⟩ = some (.int .i64 s.next) ∧ w'.cell? ⟨w.heap.size + 1, 12, none⟩ = some (.int .i64 s.nday)) ∧ DuesAt w' (some ⟨g, 0, none⟩) (s.dues ++ [f71, f71, f71]) ∧ Below w.heap.size w w')
        (((try go_split_ands); (try dsimp only); (repeat' apply And.intro) <;> (first | (exact cell_below hb (by assumption)) | (exact below_self (by assumption) hb) | (exact DuesAt.below (by assumption) hb) | (exact hbel.drew) | assumption | go_keep)))
        (first
          | (go_at_call 5; go_split_ands; (with_reducible refine (awake_any _ (Tab.below HT.out (by assumption))).mono ?_); rintro e w' ⟨rfl, hb⟩)
          | (go_at_call 7; go_split_ands; (with_reducible refine (text_any s (some ⟨g, 0, none⟩) (s.dues.length + 3) HF.out hn100 _ (dues_left (by assumption)) (Tab.below HT.out (by assumption))).mono ?_); rintro e w' ⟨rfl, hb⟩)
          | (go_at_call 8; go_split_ands; (with_reducible refine (rtext_any s A c HF.out hn100 _ (DuesAt.below HD.out (by assumption))).mono ?_); rintro e w' ⟨rfl, hb⟩)
          | (go_at_call 9; go_split_ands; (with_reducible refine (kept_any s.dues g A c hn1000 _ (by assumption) (DuesAt.below HD.out (by assumption))).mono ?_); rintro e w' ⟨rfl, hb⟩))
      go_split_ands
      go_wp2
      go_ret
      exact ⟨rfl, by assumption⟩
end Go.Proofs.YtkafeedmmghoeaaDoor.lns
