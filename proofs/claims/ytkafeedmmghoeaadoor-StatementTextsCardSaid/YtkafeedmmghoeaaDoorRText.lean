/- WALKS: the text of a statement, as the reference makes it. -/
import Derived.Test.YtkafeedmmghoeaaDoorText
namespace Go.Proofs.YtkafeedmmghoeaaDoor.txt
open Go.RowKit Go.Lib base dec bld lin

/-- the statement's own cells lie where they lay -/
structure Box (w wk : World) (cs0 : Array Value) : Prop where
  below : Below w.heap.size w wk
  box : Blk wk w.heap.size cs0 24
theorem Box.pure {w wk w1 : World} {cs0 : Array Value} (h : Box w wk cs0) (hb : Below wk.heap.size wk w1) : Box w w1 cs0 := ⟨below_self h.below hb, h.box.below hb⟩

theorem Box.drew {w wk : World} {cs0 : Array Value} (h : Box w wk cs0) : Box w wk.drew cs0 := h.pure (Below.refl _ _).drew
theorem Box.alloc {w wk : World} {cs0 : Array Value} (h : Box w wk cs0) (o : Obj) : Box w (wk.alloc o) cs0 := h.pure ((Below.refl _ _).alloc (Nat.le_refl _) o)
def words7 : List (List UInt8) := [[112, 114, 105, 110, 99, 105, 112, 97, 108], [97, 99, 99, 114, 117, 101, 100], [105, 110, 116, 101, 114, 101, 115, 116], [100, 117, 101], [112, 101, 110, 97, 108, 116, 121], [102, 101, 101, 115], [117, 110, 97, 112, 112, 108, 105, 101, 100]]
def amts (s : St) : List Int := [s.prin, s.acc, s.int, s.due, s.pen, s.fees, s.una]

def wd (j : Nat) : List UInt8 := words7.getD j []
def am (s : St) (j : Nat) : Int := (amts s).getD j 0
noncomputable def headTo (s : St) (j : Nat) : List UInt8 := lineL [dayL s.day, how s.opn s.cld] ++ ((List.range j).map fun i => lineL [wd i, moneyL (am s i)]).flatten
theorem headTo_all (s : St) : headTo s 7 = headL s := by
  simp [headTo, headL, List.range, List.range.loop, wd, am, words7, amts]
theorem headTo_succ (s : St) (j : Nat) : headTo s (j + 1) = headTo s j ++ lineL [wd j, moneyL (am s j)] := by
  unfold headTo
  rw [List.range_succ, List.map_append, List.flatten_append, List.append_assoc]
  simp
theorem joined2_eq (a b : List UInt8) : joined [a, b] = a ++ 32 :: b := by simp [joined, Lib.join, List.intercalate]
theorem joined3_eq (a b c : List UInt8) : joined [a, b, c] = a ++ 32 :: (b ++ 32 :: c) := by simp [joined, Lib.join, List.intercalate]
theorem joined5_eq (a b c d e : List UInt8) : joined [a, b, c, d, e] = a ++ 32 :: (b ++ 32 :: (c ++ 32 :: (d ++ 32 :: e))) := by simp [joined, Lib.join, List.intercalate]
theorem wd_len (j : Nat) (h : j < 7) : (wd j).length ≤ 9 := by
  obtain rfl | rfl | rfl | rfl | rfl | rfl | rfl : j = 0 ∨ j = 1 ∨ j = 2 ∨ j = 3 ∨ j = 4 ∨ j = 5 ∨ j = 6 := by omega
  all_goals simp [wd, words7]
theorem am_fit (s : St) (hf : StFit s) (j : Nat) (h : j < 7) : Fit (am s j) := by
  obtain rfl | rfl | rfl | rfl | rfl | rfl | rfl : j = 0 ∨ j = 1 ∨ j = 2 ∨ j = 3 ∨ j = 4 ∨ j = 5 ∨ j = 6 := by omega
  · exact hf.prin
  · exact hf.acc
  · exact hf.int
  · exact hf.due
  · exact hf.pen
  · exact hf.fees
  · exact hf.una
def amtCells (s : St) : Array Value := #[.int .i64 s.prin, .int .i64 s.acc, .int .i64 s.int, .int .i64 s.due, .int .i64 s.pen, .int .i64 s.fees, .int .i64 s.una]
theorem amt_at (s : St) (j : Nat) (h : j < 7) : (amtCells s)[j]? = some (.int .i64 (am s j)) := by
  obtain rfl | rfl | rfl | rfl | rfl | rfl | rfl : j = 0 ∨ j = 1 ∨ j = 2 ∨ j = 3 ∨ j = 4 ∨ j = 5 ∨ j = 6 := by omega
  all_goals rfl
def wdCells : Array Value := #[.string ⟨#[112, 114, 105, 110, 99, 105, 112, 97, 108]⟩, .string ⟨#[97, 99, 99, 114, 117, 101, 100]⟩, .string ⟨#[105, 110, 116, 101, 114, 101, 115, 116]⟩, .string ⟨#[100, 117, 101]⟩, .string ⟨#[112, 101, 110, 97, 108, 116, 121]⟩, .string ⟨#[102, 101, 101, 115]⟩, .string ⟨#[117, 110, 97, 112, 112, 108, 105, 101, 100]⟩]
theorem wd_at (j : Nat) (h : j < 7) : wdCells[j]? = some (.string ⟨(wd j).toArray⟩) := by
  obtain rfl | rfl | rfl | rfl | rfl | rfl | rfl : j = 0 ∨ j = 1 ∨ j = 2 ∨ j = 3 ∨ j = 4 ∨ j = 5 ∨ j = 6 := by omega
  all_goals rfl

noncomputable def outTo (s : St) (j : Nat) : List UInt8 := headL s ++ duesL (s.dues.take j)
theorem outTo_succ (s : St) (j : Nat) (d : Due) (h : s.dues[j]? = some d) : outTo s (j + 1) = outTo s j ++ dueL d := by
  unfold outTo
  rw [duesL_take s.dues j d h, List.append_assoc]
set_option maxHeartbeats 8000000 in
set_option maxRecDepth 100000 in
theorem rtext_any (s : St) (A : Option Addr) (c : Nat) (hf : StFit s) (hn : s.dues.length ≤ 100) (w : World) (hd : DuesAt w A s.dues) :
    Calls Tryd.prog 8 #[.agg #[.int .i64 s.day, .bool s.opn, .bool s.cld, .int .i64 s.prin, .int .i64 s.acc, .int .i64 s.int, .int .i64 s.due, .int .i64 s.pen, .int .i64 s.fees, .int .i64 s.una, .slice A s.dues.length c, .int .i64 s.next, .int .i64 s.nday]] w fun e w' => e = .returned (.string ⟨(textL s).toArray⟩) ∧ Below w.heap.size w w' := by
  have HF := Lib.hid hf
  have HD := Lib.hid hd
  clear hf hd
  have hcat := cat_str
  have B0 : Box w (w.alloc (.cells (cells s A c) 24)) (cells s A c) := ⟨by go_grown, Blk.new _ _ _⟩
  go_enter Tryd.func8, Tryd.ntmps8
  have c1 := B0.box.cell 1 (.bool s.opn) rfl
  go_upto_if 10 with (fail)
  go_cut [3] (fun v3 wc => v3 = .string ⟨(how s.opn false).toArray⟩ ∧ Box w wc (cells s A c))
  case first =>
    obtain ⟨day, opn, cld, prin, acc, int, due, pen, fees, una, dues, next, nday⟩ := s
    cases opn
    all_goals
      have HR := Lib.hid B0
      clear B0
      go_wp2
      go_meet
      case rel => exact ⟨rfl, HR.out⟩
  case rest =>
    obtain ⟨rfl, R⟩ := hcut
    clear B0 c1
    have c2 := R.box.cell 2 (.bool s.cld) rfl
    go_upto_if 12 with (fail)
    go_cut [3] (fun v3 wc => v3 = .string ⟨(how s.opn s.cld).toArray⟩ ∧ Box w wc (cells s A c))
    case first =>
      obtain ⟨day, opn, cld, prin, acc, int, due, pen, fees, una, dues, next, nday⟩ := s
      cases cld
      all_goals
        have HR := Lib.hid R
        clear R
        go_wp2
        go_meet
        case rel => exact ⟨rfl, HR.out⟩
    case rest =>
      obtain ⟨rfl, R⟩ := hcut
      clear c2
      have c0 := R.box.cell 0 (.int .i64 s.day) rfl
      have ld := dayL_len s.day
      have lh : (how s.opn s.cld).length ≤ 6 := by unfold how; split <;> (try split) <;> simp
      go_wp2_with fail
      go_call (rdatel_any _ _) as _ w1 ⟨rfl, hb⟩
      replace R := R.pure hb
      have c3 := R.box.cell 3 (.int .i64 s.prin) rfl
      have c4 := R.box.cell 4 (.int .i64 s.acc) rfl
      have c5 := R.box.cell 5 (.int .i64 s.int) rfl
      have c6 := R.box.cell 6 (.int .i64 s.due) rfl
      have c7 := R.box.cell 7 (.int .i64 s.pen) rfl
      have c8 := R.box.cell 8 (.int .i64 s.fees) rfl
      have c9 := R.box.cell 9 (.int .i64 s.una) rfl
      go_wp2
      clear c0 c3 c4 c5 c6 c7 c8 c9
      go_loopg [4, 36] 7 (fun k v4 v36 wr => ∃ j : Nat, k = 7 - j ∧ j ≤ 7 ∧ v4 = .string ⟨(headTo s j).toArray⟩ ∧ v36 = .int .i64 (j : Int) ∧ (headTo s j).length ≤ 200 + 100 * j ∧ Blk wr w1.heap.size (amtCells s) 2 ∧ Box w wr (cells s A c))
      case atStart =>
        have e0 : headTo s 0 = dayL s.day ++ 32 :: (how s.opn s.cld ++ [10]) := by simp [headTo, lineL, joined2_eq]
        refine ⟨0, rfl, by omega, by rw [e0], rfl, by rw [e0]; simp; omega, Blk.new _ _ _, R.pure ((Below.refl _ _).alloc (Nat.le_refl _) _)⟩
      case round =>
        obtain ⟨j, hk, hj, rfl, rfl, hlen, BA, R⟩ := hrel
        have HK := Lib.hid hk
        clear hk ld lh
        by_cases hlt : j < 7
        · have ca := BA.cell j _ (amt_at s j hlt)
          have cw : ∀ W : World, (W.alloc (.cells #[.string ⟨#[112, 114, 105, 110, 99, 105, 112, 97, 108]⟩, .string ⟨#[97, 99, 99, 114, 117, 101, 100]⟩, .string ⟨#[105, 110, 116, 101, 114, 101, 115, 116]⟩, .string ⟨#[100, 117, 101]⟩, .string ⟨#[112, 101, 110, 97, 108, 116, 121]⟩, .string ⟨#[102, 101, 101, 115]⟩, .string ⟨#[117, 110, 97, 112, 112, 108, 105, 101, 100]⟩] 9)).cell? ⟨W.heap.size, j, none⟩ = some (.string ⟨(wd j).toArray⟩) := fun W => (Blk.new W wdCells 9).cell j _ (wd_at j hlt)
          have lw := wd_len j hlt
          have fa0 : -9223372036854775808 ≤ am s j := (am_fit s HF.out j hlt).1
          have fa1 : am s j ≤ 9223372036854775807 := (am_fit s HF.out j hlt).2
          have lm := moneyL_len (am s j) fa0 fa1
          have q1 : ¬ 9223372036854775807 < (headTo s j).length + (wd j).length := by omega
          have q2 : ¬ 9223372036854775807 < (headTo s j).length + (wd j).length + 1 := by omega
          have q3 : ¬ 9223372036854775807 < (headTo s j).length + ((wd j).length + 1) + (moneyL (am s j)).length := by omega
          have q4 : ¬ 9223372036854775807 < (headTo s j).length + ((wd j).length + ((moneyL (am s j)).length + 1)) + 1 := by omega
          go_upto_region 10 with (fail)
          go_region_with ((go_at_call 17; (with_reducible refine (rmoney_any _ fa0 fa1 _).mono ?_); rintro e w' ⟨rfl, hb⟩; (try have hcw : w'.cell? ⟨wr.heap.size, j, none⟩ = some (.string ⟨(wd j).toArray⟩) := cell_below hb (cw _))))
          all_goals
            go_wp2
            go_roundg (7 - (j + 1))
            case measure => have := HK.out; omega
            case rel =>
              have es : headTo s (j + 1) = headTo s j ++ (wd j ++ 32 :: (moneyL (am s j) ++ [10])) := by rw [headTo_succ]; simp [lineL, joined2_eq]
              refine ⟨j + 1, rfl, by omega, by rw [es], by go_num, by rw [es]; simp; omega, ?_, ?_⟩
              · first | exact (BA.drew.alloc _).below hb | exact (BA.drew.below hb).alloc _
              · first | exact (R.drew.alloc _).pure hb | exact (R.drew.pure hb).alloc _
        · have hj7 : j = 7 := by omega
          subst hj7
          rw [headTo_all] at hlen ⊢
          clear hlt hj BA
          have c10 := R.box.cell 10 (.slice A s.dues.length c) rfl
          go_wp2
          go_loopg [4, 7] s.dues.length (fun k v4 v7 wr => ∃ j : Nat, k = s.dues.length - j ∧ j ≤ s.dues.length ∧ v4 = .string ⟨(outTo s j).toArray⟩ ∧ v7 = .int .i64 (j : Int) ∧ (outTo s j).length ≤ 1000 + 500 * j ∧ Box w wr (cells s A c))
          case atStart => exact ⟨0, by simp, by omega, by simp [outTo, duesL], rfl, by simp [outTo, duesL]; omega, R⟩
          case round =>
            clear c10 R hlen
            obtain ⟨j, hk, hj, rfl, rfl, hlen, R⟩ := hrel
            have HK := Lib.hid hk
            clear hk
            have c10 := R.box.cell 10 (.slice A s.dues.length c) rfl
            by_cases hlt : j < s.dues.length
            · obtain ⟨d, hdj⟩ : ∃ d, s.dues[j]? = some d := ⟨_, List.getElem?_eq_getElem hlt⟩
              have HDF := Lib.hid (HF.out.dues d (List.mem_of_getElem? hdj))
              obtain ⟨bk, o, rfl, hcells⟩ := (HD.out).resolve_left (by intro e; rw [e] at hlt; simp at hlt)
              obtain ⟨e0, e1, e2, e3⟩ := hcells j d hdj
              have g0 := cell_below R.below e0
              have g1 := cell_below R.below e1
              have g2 := cell_below R.below e2
              have g3 := cell_below R.below e3
              have HTK := Lib.hid (outTo_succ s j d hdj)
              have HLN := Lib.hid (dueL_len d HDF.out)
              have fn0 : -9223372036854775808 ≤ d.n := HDF.out.n.1
              have fn1 : d.n ≤ 9223372036854775807 := HDF.out.n.2
              have fi0 : -9223372036854775808 ≤ d.int := HDF.out.int.1
              have fi1 : d.int ≤ 9223372036854775807 := HDF.out.int.2
              have fp0 : -9223372036854775808 ≤ d.prin := HDF.out.prin.1
              have fp1 : d.prin ≤ 9223372036854775807 := HDF.out.prin.2
              have ln := itoa_length_le d.n fn0 fn1
              have ld := dayL_len d.day
              have li := moneyL_len d.int fi0 fi1
              have lp := moneyL_len d.prin fp0 fp1
              have R0 := R.alloc (.cells (dcells d) 28)
              have B0 := Blk.new wr (dcells d) 28
              have q1 : ¬ 9223372036854775807 < (outTo s j).length + 11 := by omega
              have q2 : ¬ 9223372036854775807 < (outTo s j).length + 11 + (Lib.itoa d.n).length := by omega
              have q3 : ¬ 9223372036854775807 < (outTo s j).length + ((Lib.itoa d.n).length + 1 + 1 + 1 + 1 + 1 + 1 + 1 + 1 + 1 + 1 + 1) + 1 := by omega
              have q4 : ¬ 9223372036854775807 < (outTo s j).length + ((Lib.itoa d.n).length + 1 + 1 + 1 + 1 + 1 + 1 + 1 + 1 + 1 + 1 + 1 + 1) + (dayL d.day).length := by omega
              have q5 : ¬ 9223372036854775807 < (outTo s j).length + ((Lib.itoa d.n).length + ((dayL d.day).length + 1) + 1 + 1 + 1 + 1 + 1 + 1 + 1 + 1 + 1 + 1 + 1) + 1 := by omega
              have q6 : ¬ 9223372036854775807 < (outTo s j).length + ((Lib.itoa d.n).length + ((dayL d.day).length + 1 + 1) + 1 + 1 + 1 + 1 + 1 + 1 + 1 + 1 + 1 + 1 + 1) + (moneyL d.int).length := by omega
              have q7 : ¬ 9223372036854775807 < (outTo s j).length + ((Lib.itoa d.n).length + ((dayL d.day).length + ((moneyL d.int).length + 1) + 1) + 1 + 1 + 1 + 1 + 1 + 1 + 1 + 1 + 1 + 1 + 1) + 1 := by omega
              have q8 : ¬ 9223372036854775807 < (outTo s j).length + ((Lib.itoa d.n).length + ((dayL d.day).length + ((moneyL d.int).length + 1 + 1) + 1) + 1 + 1 + 1 + 1 + 1 + 1 + 1 + 1 + 1 + 1 + 1) + (moneyL d.prin).length := by omega
              have q9 : ¬ 9223372036854775807 < (outTo s j).length + ((Lib.itoa d.n).length + ((dayL d.day).length + ((moneyL d.int).length + ((moneyL d.prin).length + 1) + 1) + 1) + 1 + 1 + 1 + 1 + 1 + 1 + 1 + 1 + 1 + 1 + 1) + 1 := by omega
              clear hcells e0 e1 e2 e3 hdj
              go_upto_region 16 with (fail)
              go_region_held3 (fun w' => w'.cell? ⟨wr.heap.size, 0, none⟩ = some (.int .i64 d.n) ∧ w'.cell? ⟨wr.heap.size, 1, none⟩ = some (.int .i64 d.day) ∧ w'.cell? ⟨wr.heap.size, 2, none⟩ = some (.int .i64 d.int) ∧ w'.cell? ⟨wr.heap.size, 3, none⟩ = some (.int .i64 d.prin) ∧ Box w w' (cells s (some ⟨bk, o, none⟩) c))
                (((try go_split_ands); (try dsimp only); (repeat' apply And.intro) <;> (first
                  | (exact R0.drew) | (exact B0.drew.cell 0 _ rfl) | (exact B0.drew.cell 1 _ rfl) | (exact B0.drew.cell 2 _ rfl) | (exact B0.drew.cell 3 _ rfl)
                  | (exact cell_below hb (by assumption)) | (exact Box.pure (by assumption) hb) | assumption | go_keep)))
                (first
                  | (go_at_call 18; (with_reducible refine (rnumber_any _ fn0 fn1 _).mono ?_); rintro e w' ⟨rfl, hb⟩)
                  | (go_at_call 16; (with_reducible refine (rdatel_any _ _).mono ?_); rintro e w' ⟨rfl, hb⟩)
                  | (go_at_call 17; (with_reducible refine (rmoney_any _ fi0 fi1 _).mono ?_); rintro e w' ⟨rfl, hb⟩)
                  | (go_at_call 17; (with_reducible refine (rmoney_any _ fp0 fp1 _).mono ?_); rintro e w' ⟨rfl, hb⟩))
              go_split_ands
              go_wp2
              go_roundg (s.dues.length - (j + 1))
              case measure => have := HK.out; omega
              case rel =>
                refine ⟨j + 1, rfl, by omega, ?_, by go_num, by rw [HTK.out, List.length_append]; have := HLN.out; omega, by assumption⟩
                rw [HTK.out]
                unfold dueL lineL
                rw [joined5_eq]
                simp
            · have hjn : j = s.dues.length := by omega
              subst hjn
              have c11 := R.box.cell 11 (.int .i64 s.next) rfl
              have c12 := R.box.cell 12 (.int .i64 s.nday) rfl
              by_cases hz : s.next = 0
              · have HZ := Lib.hid hz
                have hzb : (s.next != 0) = false := by rw [hz]; rfl
                clear hz
                go_wp2
                go_ret
                refine ⟨ret_str ?_, R.below⟩
                unfold textL nextL outTo
                rw [if_pos HZ.out, List.take_length]; simp
              · have HZ := Lib.hid hz
                have hzb : (s.next != 0) = true := by simpa using hz
                clear hz
                have fn0 : -9223372036854775808 ≤ s.next := HF.out.next.1
                have fn1 : s.next ≤ 9223372036854775807 := HF.out.next.2
                have ln := itoa_length_le s.next fn0 fn1
                have ld := dayL_len s.nday
                have q1 : ¬ 9223372036854775807 < (outTo s s.dues.length).length + 5 := by omega
                have q2 : ¬ 9223372036854775807 < (outTo s s.dues.length).length + 5 + (Lib.itoa s.next).length := by omega
                have q3 : ¬ 9223372036854775807 < (outTo s s.dues.length).length + ((Lib.itoa s.next).length + 1 + 1 + 1 + 1 + 1) + 1 := by omega
                have q4 : ¬ 9223372036854775807 < (outTo s s.dues.length).length + ((Lib.itoa s.next).length + 1 + 1 + 1 + 1 + 1 + 1) + (dayL s.nday).length := by omega
                have q5 : ¬ 9223372036854775807 < (outTo s s.dues.length).length + ((Lib.itoa s.next).length + ((dayL s.nday).length + 1) + 1 + 1 + 1 + 1 + 1) + 1 := by omega
                go_wp2_with fail
                go_region_held3 (fun w' => w'.cell? ⟨w.heap.size, 11, none⟩ = some (.int .i64 s.next) ∧ w'.cell? ⟨w.heap.size, 12, none⟩ = some (.int .i64 s.nday) ∧ Box w w' (cells s A c))
                  (((try go_split_ands); (try dsimp only); (repeat' apply And.intro) <;> (first
                    | (exact R.drew) | (exact R.drew.box.cell 11 _ rfl) | (exact R.drew.box.cell 12 _ rfl)
                    | (exact cell_below hb (by assumption)) | (exact Box.pure (by assumption) hb) | assumption | go_keep)))
                  (first
                    | (go_at_call 18; (with_reducible refine (rnumber_any _ fn0 fn1 _).mono ?_); rintro e w' ⟨rfl, hb⟩)
                    | (go_at_call 16; (with_reducible refine (rdatel_any _ _).mono ?_); rintro e w' ⟨rfl, hb⟩))
                go_split_ands
                go_wp2
                go_ret
                refine ⟨ret_str ?_, (show Box w w' (cells s A c) by assumption).below⟩
                unfold textL nextL outTo lineL
                rw [if_neg HZ.out, List.take_length, joined3_eq]
                simp
end Go.Proofs.YtkafeedmmghoeaaDoor.txt
