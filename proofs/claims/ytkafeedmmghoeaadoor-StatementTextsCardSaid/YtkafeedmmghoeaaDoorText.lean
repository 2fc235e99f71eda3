/- WALKS: the text of a statement. -/
import Derived.Test.YtkafeedmmghoeaaDoorLine
namespace Go.Proofs.YtkafeedmmghoeaaDoor.txt
open Go.RowKit Go.Lib base dec bld lin

/-- what a statement's text makes, step by step: the statement's own cells, the lines so far -/
structure Run (w wk : World) (cs0 cs : Array Value) (l : List UInt8) : Prop where
  below : Below w.heap.size w wk
  box : Blk wk w.heap.size cs0 24
  bl : Bld wk (w.heap.size + 1) (w.heap.size + 1) 0 cs 44 l
variable {w wk w1 : World} {cs0 cs cs1 : Array Value} {l l1 : List UInt8}
theorem Run.pure (h : Run w wk cs0 cs l) (hb : Below wk.heap.size wk w1) : Run w w1 cs0 cs l :=
  ⟨below_self h.below hb, h.box.below hb, Bld.below h.bl hb⟩
theorem Run.alloc (h : Run w wk cs0 cs l) (o : Obj) : Run w (wk.alloc o) cs0 cs l := h.pure ((Below.refl _ _).alloc (Nat.le_refl _) o)
theorem Run.drew (h : Run w wk cs0 cs l) : Run w wk.drew cs0 cs l := h.pure (Below.refl _ _).drew
theorem Run.size (h : Run w wk cs0 cs l) : w.heap.size + 1 ≤ wk.heap.size := Nat.le_of_lt h.bl.blk.lt
theorem Run.wrote (h : Run w wk cs0 cs l) (hB : Bld w1 (w.heap.size + 1) (w.heap.size + 1) 0 cs1 44 l1) (hb : Below (w.heap.size + 1) wk w1) : Run w w1 cs0 cs1 l1 :=
  ⟨h.below.trans (hb.mono (by omega)), h.box.belowB hb (by omega), hB⟩

def str (x : List UInt8) : Value := .string ⟨x.toArray⟩
theorem words_cells (w : World) (xs : List (List UInt8)) (T : TypeId) : ∀ (j : Nat) x, xs[j]? = some x → (w.alloc (.cells (xs.map str).toArray T)).cell? ⟨w.heap.size, 0 + j, none⟩ = some (.string ⟨x.toArray⟩) := by
  intro j x hx
  refine (Blk.new w (xs.map str).toArray T).cell (0 + j) _ ?_
  simp [hx, str]

theorem line_run (R : Run w wk cs0 cs l) (xs : List (List UInt8)) (T : TypeId) (hlen : xs.length ≤ 100) (hl : l.length + (joined xs).length ≤ 1000000000) :
    Calls Tryd.prog 11 #[.pointer (some ⟨w.heap.size + 1, 0, none⟩), .slice (some ⟨wk.heap.size, 0, none⟩) xs.length xs.length] (wk.alloc (.cells (xs.map str).toArray T)) fun e w' => e = .returned (.tuple #[]) ∧ ∃ cs', Run w w' cs0 cs' (l ++ (joined xs ++ [10])) ∧ Lib.OthersKept 5 (some (w.heap.size + 1)) (wk.alloc (.cells (xs.map str).toArray T)) w' := by
  have R2 := R.alloc (.cells (xs.map str).toArray T)
  have hs := R.size
  refine (line_any R2.bl wk.heap.size xs.length xs (words_cells wk xs T) (by simp) (Nat.le_refl _) hlen hl (by simp; omega)).mono ?_
  rintro e w' ⟨rfl, v, h2, hb2, hk2⟩
  exact ⟨rfl, _, R2.wrote h2 hb2, hk2⟩

/-! ### what it makes -/
structure Due where
  n : Int
  day : Int
  int : Int
  prin : Int
structure St where
  day : Int
  opn : Bool
  cld : Bool
  prin : Int
  acc : Int
  int : Int
  due : Int
  pen : Int
  fees : Int
  una : Int
  dues : List Due
  next : Int
  nday : Int
def lineL (xs : List (List UInt8)) : List UInt8 := joined xs ++ [10]
def how (o c : Bool) : List UInt8 := if c then [99, 108, 111, 115, 101, 100] else if o then [111, 112, 101, 110] else [110, 111, 110, 101]
noncomputable def dueL (d : Due) : List UInt8 := lineL [[105, 110, 115, 116, 97, 108, 109, 101, 110, 116], Lib.itoa d.n, dayL d.day, moneyL d.int, moneyL d.prin]
noncomputable def duesL (ds : List Due) : List UInt8 := (ds.map dueL).flatten
noncomputable def headL (s : St) : List UInt8 :=
  lineL [dayL s.day, how s.opn s.cld] ++ lineL [[112, 114, 105, 110, 99, 105, 112, 97, 108], moneyL s.prin] ++ lineL [[97, 99, 99, 114, 117, 101, 100], moneyL s.acc]
    ++ lineL [[105, 110, 116, 101, 114, 101, 115, 116], moneyL s.int] ++ lineL [[100, 117, 101], moneyL s.due] ++ lineL [[112, 101, 110, 97, 108, 116, 121], moneyL s.pen]
    ++ lineL [[102, 101, 101, 115], moneyL s.fees] ++ lineL [[117, 110, 97, 112, 112, 108, 105, 101, 100], moneyL s.una]
noncomputable def nextL (s : St) : List UInt8 := if s.next = 0 then [] else lineL [[110, 101, 120, 116], Lib.itoa s.next, dayL s.nday]
noncomputable def textL (s : St) : List UInt8 := headL s ++ duesL s.dues ++ nextL s

theorem dayL_len (n : Int) : (dayL n).length ≤ 107 := by
  by_cases h : n < -25567 ∨ 84370 < n
  · rw [dayL_no h]; simp
  · by_cases hx : ∃ y m d, civ.IsDate n y m d
    · obtain ⟨y, m, d, hd⟩ := hx
      rw [dayL_yes hd]
      have hm := civ.mlen_bound y m
      obtain ⟨a1, a2, a3, a4, a5, a6, a7⟩ := hd
      have l0 : (Lib.itoa y).length ≤ 21 := itoa_length_le _ (by omega) (by omega)
      have l1 := twoL_len m (by omega) (by omega)
      have l2 := twoL_len d (by omega) (by omega)
      unfold dateL
      simp; omega
    · unfold dayL
      rw [dif_neg hx]; simp
theorem moneyL_len (v : Int) (h0 : -9223372036854775808 ≤ v) (h1 : v ≤ 9223372036854775807) : (moneyL v).length ≤ 42 := by
  have l0 := sign_len v
  have l1 := dig_len (v.natAbs / 100) 1 (by omega) (by omega)
  have l2 := dig_len (v.natAbs % 100) 2 (by omega) (by omega)
  unfold moneyL
  simp; omega
theorem app_len (x j : List UInt8) : (x ++ (j ++ [10])).length = x.length + j.length + 1 := by simp; omega
theorem joined2 (a b : List UInt8) : (joined [a, b]).length = a.length + b.length + 1 := by simp [joined, Lib.join, List.intercalate]; omega
theorem joined3 (a b c : List UInt8) : (joined [a, b, c]).length = a.length + b.length + c.length + 2 := by simp [joined, Lib.join, List.intercalate]; omega
theorem joined5 (a b c d e : List UInt8) : (joined [a, b, c, d, e]).length = a.length + b.length + c.length + d.length + e.length + 4 := by simp [joined, Lib.join, List.intercalate]; omega

def Fit (v : Int) : Prop := -9223372036854775808 ≤ v ∧ v ≤ 9223372036854775807
structure DueFit (d : Due) : Prop where
  n : Fit d.n
  day : Fit d.day
  int : Fit d.int
  prin : Fit d.prin
structure StFit (s : St) : Prop where
  day : Fit s.day
  prin : Fit s.prin
  acc : Fit s.acc
  int : Fit s.int
  due : Fit s.due
  pen : Fit s.pen
  fees : Fit s.fees
  una : Fit s.una
  dues : ∀ d ∈ s.dues, DueFit d
  next : Fit s.next
  nday : Fit s.nday
/-- the instalments lie in memory, in order -/
def DuesAt (w : World) (A : Option Addr) (ds : List Due) : Prop :=
  ds = [] ∨ ∃ bk o, A = some ⟨bk, o, none⟩ ∧ ∀ (j : Nat) d, ds[j]? = some d → w.cell? ⟨bk, o + j * 4, none⟩ = some (.int .i64 d.n) ∧ w.cell? ⟨bk, o + j * 4 + 1, none⟩ = some (.int .i64 d.day) ∧ w.cell? ⟨bk, o + j * 4 + 2, none⟩ = some (.int .i64 d.int) ∧ w.cell? ⟨bk, o + j * 4 + 3, none⟩ = some (.int .i64 d.prin)
def dcells (d : Due) : Array Value := #[.int .i64 d.n, .int .i64 d.day, .int .i64 d.int, .int .i64 d.prin]
theorem kept_blk {w w1 : World} {e T : TypeId} {b k : Nat} {cs : Array Value} (h : Lib.OthersKept e (some b) w w1) (hb : Blk w k cs T) (hne : k ≠ b) (hT : T ≠ e) : Blk w1 k cs T :=
  h k _ hb (fun he => hne (by injection he)) (fun c fz he => hT (by injection he))
theorem below_alloc' {w w1 : World} (h : Below w.heap.size w w1) (o : Obj) : Below w.heap.size w (w1.alloc o) := h.alloc h.size o
theorem headL_ne (s : St) (x : List UInt8) : headL s ++ x ≠ [] := by unfold headL lineL; simp
theorem duesL_take (ds : List Due) (j : Nat) (d : Due) (h : ds[j]? = some d) : duesL (ds.take (j + 1)) = duesL (ds.take j) ++ dueL d := by
  obtain ⟨hj, rfl⟩ := List.getElem?_eq_some_iff.1 h
  unfold duesL
  rw [List.take_succ_eq_append_getElem hj, List.map_append, List.flatten_append]
  simp
theorem dueL_len (d : Due) (h : DueFit d) : (dueL d).length ≤ 500 := by
  have ld := dayL_len d.day
  have li := itoa_length_le d.n h.n.1 h.n.2
  have l1 := moneyL_len d.int h.int.1 h.int.2
  have l2 := moneyL_len d.prin h.prin.1 h.prin.2
  have hjl := joined5 [105, 110, 115, 116, 97, 108, 109, 101, 110, 116] (Lib.itoa d.n) (dayL d.day) (moneyL d.int) (moneyL d.prin)
  unfold dueL lineL
  rw [List.length_append, hjl]
  simp only [List.length_cons, List.length_nil]
  omega
def cells (s : St) (A : Option Addr) (c : Nat) : Array Value := #[.int .i64 s.day, .bool s.opn, .bool s.cld, .int .i64 s.prin, .int .i64 s.acc, .int .i64 s.int, .int .i64 s.due, .int .i64 s.pen, .int .i64 s.fees, .int .i64 s.una, .slice A s.dues.length c, .int .i64 s.next, .int .i64 s.nday]

set_option maxHeartbeats 8000000 in
set_option maxRecDepth 100000 in
theorem text_any (s : St) (A : Option Addr) (c : Nat) (hf : StFit s) (hn : s.dues.length ≤ 100) (w : World) (hd : DuesAt w A s.dues) (ht : Tab w) :
    Calls Tryd.prog 7 #[.agg #[.int .i64 s.day, .bool s.opn, .bool s.cld, .int .i64 s.prin, .int .i64 s.acc, .int .i64 s.int, .int .i64 s.due, .int .i64 s.pen, .int .i64 s.fees, .int .i64 s.una, .slice A s.dues.length c, .int .i64 s.next, .int .i64 s.nday]] w fun e w' => e = .returned (.string ⟨(textL s).toArray⟩) ∧ Below w.heap.size w w' := by
  have hmf : ∀ (fn : Fn) (first cap : Array Value) (w : World), (Instr.makeFunc fn first cap).run Tryd.prog w = .ok (.func fn first cap) w := fun _ _ _ _ => rfl
  have HF := Lib.hid hf
  have HD := Lib.hid hd
  clear hf hd
  go_enter Tryd.func7, Tryd.ntmps7
  go_upto_block 0 with (fail)
  go_cut [5] (fun v5 wc => v5 = .string ⟨(how s.opn s.cld).toArray⟩ ∧ ∃ cs, Run w wc (cells s A c) cs [])
  case first =>
    have R0 : Run w ((w.alloc (.cells (cells s A c) 24)).alloc (.cells #[.pointer none, .slice none 0 0] 44)) (cells s A c) #[.pointer none, .slice none 0 0] [] := by
      refine ⟨by go_grown, (Blk.new _ _ _).alloc _, Nat.le_refl _, ?_, by decide, by kernel_rfl, .inl rfl, .slice none 0 0, rfl, World.ownsRowF_nil _ _ _ _⟩
      have := Blk.new (w.alloc (.cells (cells s A c) 24)) #[.pointer none, .slice none 0 0] 44
      simpa using this
    obtain ⟨day, opn, cld, prin, acc, int, due, pen, fees, una, dues, next, nday⟩ := s
    cases cld <;> cases opn
    all_goals
      have HR := Lib.hid R0
      clear R0
      go_wp2
      go_meet
      case rel => exact ⟨rfl, _, HR.out⟩
  case rest =>
    obtain ⟨rfl, cs, R⟩ := hcut
    have HT := Lib.hid ht
    clear ht
    have ld := dayL_len s.day
    have lh : (how s.opn s.cld).length ≤ 6 := by unfold how; split <;> (try split) <;> simp
    have c0 := R.box.cell 0 (.int .i64 s.day) rfl
    go_wp2_with fail
    go_call (sdate_any _ _ (HT.out.below R.below)) as _ w1 ⟨rfl, hb⟩
    replace R := R.pure hb
    go_wp2_with fail
    have hj := joined2 (dayL s.day) (how s.opn s.cld)
    refine (line_run R [dayL s.day, how s.opn s.cld] 9 (by simp) (by simp; omega)).mono ?_
    rintro _ w2 ⟨rfl, cs2, R2, _⟩
    have hl : (([] : List UInt8) ++ (joined [dayL s.day, how s.opn s.cld] ++ [10])).length ≤ 200 := by simp; omega
    clear c0 R hb hj ld lh
    have cF := R2.box.cell 3 (.int .i64 s.prin) rfl
    have lm := moneyL_len s.prin HF.out.prin.1 HF.out.prin.2
    go_wp2_with fail
    go_call (money_any _ HF.out.prin.1 HF.out.prin.2 _ (HT.out.below R2.below)) as _ w3 ⟨rfl, hb⟩
    replace R2 := R2.pure hb
    go_wp2_with fail
    have hj := joined2 [112, 114, 105, 110, 99, 105, 112, 97, 108] (moneyL s.prin)
    simp only [List.length_cons, List.length_nil] at hj
    refine (line_run R2 [[112, 114, 105, 110, 99, 105, 112, 97, 108], moneyL s.prin] 9 (by simp) (by omega)).mono ?_
    rintro _ w4 ⟨rfl, cs3, R3, _⟩
    have hl2 := hl
    clear hl
    have hl : ((([] ++ (joined [dayL s.day, how s.opn s.cld] ++ [10])) ++ (joined [[112, 114, 105, 110, 99, 105, 112, 97, 108], moneyL s.prin] ++ [10]))).length ≤ 300 := by rw [app_len]; omega
    clear cF lm hj hl2 R2 hb
    have R2 := R3
    clear R3
    have cF := R2.box.cell 4 (.int .i64 s.acc) rfl
    have lm := moneyL_len s.acc HF.out.acc.1 HF.out.acc.2
    go_wp2_with fail
    go_call (money_any _ HF.out.acc.1 HF.out.acc.2 _ (HT.out.below R2.below)) as _ w3 ⟨rfl, hb⟩
    replace R2 := R2.pure hb
    go_wp2_with fail
    have hj := joined2 [97, 99, 99, 114, 117, 101, 100] (moneyL s.acc)
    simp only [List.length_cons, List.length_nil] at hj
    refine (line_run R2 [[97, 99, 99, 114, 117, 101, 100], moneyL s.acc] 9 (by simp) (by omega)).mono ?_
    rintro _ w4 ⟨rfl, cs3, R3, _⟩
    have hl2 := hl
    clear hl
    have hl : (((([] ++ (joined [dayL s.day, how s.opn s.cld] ++ [10])) ++ (joined [[112, 114, 105, 110, 99, 105, 112, 97, 108], moneyL s.prin] ++ [10])) ++ (joined [[97, 99, 99, 114, 117, 101, 100], moneyL s.acc] ++ [10]))).length ≤ 400 := by rw [app_len]; omega
    clear cF lm hj hl2 R2 hb
    have R2 := R3
    clear R3
    have cF := R2.box.cell 5 (.int .i64 s.int) rfl
    have lm := moneyL_len s.int HF.out.int.1 HF.out.int.2
    go_wp2_with fail
    go_call (money_any _ HF.out.int.1 HF.out.int.2 _ (HT.out.below R2.below)) as _ w3 ⟨rfl, hb⟩
    replace R2 := R2.pure hb
    go_wp2_with fail
    have hj := joined2 [105, 110, 116, 101, 114, 101, 115, 116] (moneyL s.int)
    simp only [List.length_cons, List.length_nil] at hj
    refine (line_run R2 [[105, 110, 116, 101, 114, 101, 115, 116], moneyL s.int] 9 (by simp) (by omega)).mono ?_
    rintro _ w4 ⟨rfl, cs3, R3, _⟩
    have hl2 := hl
    clear hl
    have hl : ((((([] ++ (joined [dayL s.day, how s.opn s.cld] ++ [10])) ++ (joined [[112, 114, 105, 110, 99, 105, 112, 97, 108], moneyL s.prin] ++ [10])) ++ (joined [[97, 99, 99, 114, 117, 101, 100], moneyL s.acc] ++ [10])) ++ (joined [[105, 110, 116, 101, 114, 101, 115, 116], moneyL s.int] ++ [10]))).length ≤ 500 := by rw [app_len]; omega
    clear cF lm hj hl2 R2 hb
    have R2 := R3
    clear R3
    have cF := R2.box.cell 6 (.int .i64 s.due) rfl
    have lm := moneyL_len s.due HF.out.due.1 HF.out.due.2
    go_wp2_with fail
    go_call (money_any _ HF.out.due.1 HF.out.due.2 _ (HT.out.below R2.below)) as _ w3 ⟨rfl, hb⟩
    replace R2 := R2.pure hb
    go_wp2_with fail
    have hj := joined2 [100, 117, 101] (moneyL s.due)
    simp only [List.length_cons, List.length_nil] at hj
    refine (line_run R2 [[100, 117, 101], moneyL s.due] 9 (by simp) (by omega)).mono ?_
    rintro _ w4 ⟨rfl, cs3, R3, _⟩
    have hl2 := hl
    clear hl
    have hl : (((((([] ++ (joined [dayL s.day, how s.opn s.cld] ++ [10])) ++ (joined [[112, 114, 105, 110, 99, 105, 112, 97, 108], moneyL s.prin] ++ [10])) ++ (joined [[97, 99, 99, 114, 117, 101, 100], moneyL s.acc] ++ [10])) ++ (joined [[105, 110, 116, 101, 114, 101, 115, 116], moneyL s.int] ++ [10])) ++ (joined [[100, 117, 101], moneyL s.due] ++ [10]))).length ≤ 600 := by rw [app_len]; omega
    clear cF lm hj hl2 R2 hb
    have R2 := R3
    clear R3
    have cF := R2.box.cell 7 (.int .i64 s.pen) rfl
    have lm := moneyL_len s.pen HF.out.pen.1 HF.out.pen.2
    go_wp2_with fail
    go_call (money_any _ HF.out.pen.1 HF.out.pen.2 _ (HT.out.below R2.below)) as _ w3 ⟨rfl, hb⟩
    replace R2 := R2.pure hb
    go_wp2_with fail
    have hj := joined2 [112, 101, 110, 97, 108, 116, 121] (moneyL s.pen)
    simp only [List.length_cons, List.length_nil] at hj
    refine (line_run R2 [[112, 101, 110, 97, 108, 116, 121], moneyL s.pen] 9 (by simp) (by omega)).mono ?_
    rintro _ w4 ⟨rfl, cs3, R3, _⟩
    have hl2 := hl
    clear hl
    have hl : ((((((([] ++ (joined [dayL s.day, how s.opn s.cld] ++ [10])) ++ (joined [[112, 114, 105, 110, 99, 105, 112, 97, 108], moneyL s.prin] ++ [10])) ++ (joined [[97, 99, 99, 114, 117, 101, 100], moneyL s.acc] ++ [10])) ++ (joined [[105, 110, 116, 101, 114, 101, 115, 116], moneyL s.int] ++ [10])) ++ (joined [[100, 117, 101], moneyL s.due] ++ [10])) ++ (joined [[112, 101, 110, 97, 108, 116, 121], moneyL s.pen] ++ [10]))).length ≤ 700 := by rw [app_len]; omega
    clear cF lm hj hl2 R2 hb
    have R2 := R3
    clear R3
    have cF := R2.box.cell 8 (.int .i64 s.fees) rfl
    have lm := moneyL_len s.fees HF.out.fees.1 HF.out.fees.2
    go_wp2_with fail
    go_call (money_any _ HF.out.fees.1 HF.out.fees.2 _ (HT.out.below R2.below)) as _ w3 ⟨rfl, hb⟩
    replace R2 := R2.pure hb
    go_wp2_with fail
    have hj := joined2 [102, 101, 101, 115] (moneyL s.fees)
    simp only [List.length_cons, List.length_nil] at hj
    refine (line_run R2 [[102, 101, 101, 115], moneyL s.fees] 9 (by simp) (by omega)).mono ?_
    rintro _ w4 ⟨rfl, cs3, R3, _⟩
    have hl2 := hl
    clear hl
    have hl : (((((((([] ++ (joined [dayL s.day, how s.opn s.cld] ++ [10])) ++ (joined [[112, 114, 105, 110, 99, 105, 112, 97, 108], moneyL s.prin] ++ [10])) ++ (joined [[97, 99, 99, 114, 117, 101, 100], moneyL s.acc] ++ [10])) ++ (joined [[105, 110, 116, 101, 114, 101, 115, 116], moneyL s.int] ++ [10])) ++ (joined [[100, 117, 101], moneyL s.due] ++ [10])) ++ (joined [[112, 101, 110, 97, 108, 116, 121], moneyL s.pen] ++ [10])) ++ (joined [[102, 101, 101, 115], moneyL s.fees] ++ [10]))).length ≤ 800 := by rw [app_len]; omega
    clear cF lm hj hl2 R2 hb
    have R2 := R3
    clear R3
    have cF := R2.box.cell 9 (.int .i64 s.una) rfl
    have lm := moneyL_len s.una HF.out.una.1 HF.out.una.2
    go_wp2_with fail
    go_call (money_any _ HF.out.una.1 HF.out.una.2 _ (HT.out.below R2.below)) as _ w3 ⟨rfl, hb⟩
    replace R2 := R2.pure hb
    go_wp2_with fail
    have hj := joined2 [117, 110, 97, 112, 112, 108, 105, 101, 100] (moneyL s.una)
    simp only [List.length_cons, List.length_nil] at hj
    refine (line_run R2 [[117, 110, 97, 112, 112, 108, 105, 101, 100], moneyL s.una] 9 (by simp) (by omega)).mono ?_
    rintro _ w4 ⟨rfl, cs3, R3, _⟩
    have hl2 := hl
    clear hl
    have hl : ((((((((([] ++ (joined [dayL s.day, how s.opn s.cld] ++ [10])) ++ (joined [[112, 114, 105, 110, 99, 105, 112, 97, 108], moneyL s.prin] ++ [10])) ++ (joined [[97, 99, 99, 114, 117, 101, 100], moneyL s.acc] ++ [10])) ++ (joined [[105, 110, 116, 101, 114, 101, 115, 116], moneyL s.int] ++ [10])) ++ (joined [[100, 117, 101], moneyL s.due] ++ [10])) ++ (joined [[112, 101, 110, 97, 108, 116, 121], moneyL s.pen] ++ [10])) ++ (joined [[102, 101, 101, 115], moneyL s.fees] ++ [10])) ++ (joined [[117, 110, 97, 112, 112, 108, 105, 101, 100], moneyL s.una] ++ [10]))).length ≤ 900 := by rw [app_len]; omega
    clear cF lm hj hl2 R2 hb
    have R2 := R3
    clear R3
    have hh : (((((((([] ++ (joined [dayL s.day, how s.opn s.cld] ++ [10])) ++ (joined [[112, 114, 105, 110, 99, 105, 112, 97, 108], moneyL s.prin] ++ [10])) ++ (joined [[97, 99, 99, 114, 117, 101, 100], moneyL s.acc] ++ [10])) ++ (joined [[105, 110, 116, 101, 114, 101, 115, 116], moneyL s.int] ++ [10])) ++ (joined [[100, 117, 101], moneyL s.due] ++ [10])) ++ (joined [[112, 101, 110, 97, 108, 116, 121], moneyL s.pen] ++ [10])) ++ (joined [[102, 101, 101, 115], moneyL s.fees] ++ [10])) ++ (joined [[117, 110, 97, 112, 112, 108, 105, 101, 100], moneyL s.una] ++ [10])) = headL s := by unfold headL lineL; simp
    rw [hh] at R2 hl
    clear hh
    have c10 := R2.box.cell 10 (.slice A s.dues.length c) rfl
    go_wp2
    go_loopg [70] s.dues.length (fun k v70 wr => ∃ (j : Nat) (cs : Array Value), k = s.dues.length - j ∧ j ≤ s.dues.length ∧ v70 = .int .i64 (j : Int) ∧ (duesL (s.dues.take j)).length ≤ 500 * j ∧ Run w wr (cells s A c) cs (headL s ++ duesL (s.dues.take j)))
    case atStart => exact ⟨0, cs3, by simp, by omega, rfl, by simp [duesL], by simpa [duesL] using R2⟩
    case round =>
      clear c10
      obtain ⟨j, cs5, hk, hj, rfl, hlen, R⟩ := hrel
      have HK := Lib.hid hk
      clear hk R2
      have hlt0 := R.bl.blk.lt
      by_cases hlt : j < s.dues.length
      · obtain ⟨d, hdj⟩ : ∃ d, s.dues[j]? = some d := ⟨_, List.getElem?_eq_getElem hlt⟩
        have HDF := Lib.hid (HF.out.dues d (List.mem_of_getElem? hdj))
        obtain ⟨bk, o, rfl, hcells⟩ := (HD.out).resolve_left (by intro e; rw [e] at hlt; simp at hlt)
        obtain ⟨e0, e1, e2, e3⟩ := hcells j d hdj
        have g0 := cell_below R.below e0
        have g1 := cell_below R.below e1
        have g2 := cell_below R.below e2
        have g3 := cell_below R.below e3
        have HTK := Lib.hid (duesL_take s.dues j d hdj)
        have HLN := Lib.hid (dueL_len d HDF.out)
        have hjl := joined5 [105, 110, 115, 116, 97, 108, 109, 101, 110, 116] (Lib.itoa d.n) (dayL d.day) (moneyL d.int) (moneyL d.prin)
        have hjb : (headL s ++ duesL (s.dues.take j)).length + (joined [[105, 110, 115, 116, 97, 108, 109, 101, 110, 116], Lib.itoa d.n, dayL d.day, moneyL d.int, moneyL d.prin]).length ≤ 1000000000 := by
          have h1 := HLN.out
          have h2 : (dueL d).length = (joined [[105, 110, 115, 116, 97, 108, 109, 101, 110, 116], Lib.itoa d.n, dayL d.day, moneyL d.int, moneyL d.prin]).length + 1 := by unfold dueL lineL; simp
          rw [List.length_append]; omega
        clear hcells e0 e1 e2 e3 hdj hjl
        have fn0 : -9223372036854775808 ≤ d.n := HDF.out.n.1
        have fn1 : d.n ≤ 9223372036854775807 := HDF.out.n.2
        have fi0 : -9223372036854775808 ≤ d.int := HDF.out.int.1
        have fi1 : d.int ≤ 9223372036854775807 := HDF.out.int.2
        have fp0 : -9223372036854775808 ≤ d.prin := HDF.out.prin.1
        have fp1 : d.prin ≤ 9223372036854775807 := HDF.out.prin.2
        have R0 := R.alloc (.cells (dcells d) 28)
        have B0 := Blk.new wr (dcells d) 28
        have hbl0 := R0.below
        go_upto_region 19 with (fail)
        go_region_held3 (fun w' => w'.cell? ⟨wr.heap.size, 0, none⟩ = some (.int .i64 d.n) ∧ w'.cell? ⟨wr.heap.size, 1, none⟩ = some (.int .i64 d.day) ∧ w'.cell? ⟨wr.heap.size, 2, none⟩ = some (.int .i64 d.int) ∧ w'.cell? ⟨wr.heap.size, 3, none⟩ = some (.int .i64 d.prin) ∧ Blk w' wr.heap.size (dcells d) 28 ∧ Below w.heap.size w w')
          (((try go_split_ands); (try dsimp only); (repeat' apply And.intro) <;> (first
            | (exact B0.drew) | (exact hbl0.drew) | (exact B0.drew.cell 0 _ rfl) | (exact B0.drew.cell 1 _ rfl) | (exact B0.drew.cell 2 _ rfl) | (exact B0.drew.cell 3 _ rfl)
            | (exact kb) | (exact R6.below) | (exact kb.cell 0 _ rfl) | (exact kb.cell 1 _ rfl) | (exact kb.cell 2 _ rfl) | (exact kb.cell 3 _ rfl)
            | (exact cell_below hb (by assumption)) | (exact Blk.below (by assumption) hb) | (exact below_self (by assumption) hb)
            | (exact Blk.alloc (by assumption) _) | (exact below_alloc' (by assumption) _) | go_keep)))
          (first
            | (go_at_call 14; go_split_ands; (with_reducible refine (itoa_any _ fn0 fn1 _ (Tab.below HT.out (by assumption))).mono ?_); rintro e w' ⟨rfl, hb⟩)
            | (go_at_call 12; go_split_ands; (with_reducible refine (sdate_any _ _ (Tab.below HT.out (by assumption))).mono ?_); rintro e w' ⟨rfl, hb⟩)
            | (go_at_call 13; go_split_ands; (with_reducible refine (money_any _ fi0 fi1 _ (Tab.below HT.out (by assumption))).mono ?_); rintro e w' ⟨rfl, hb⟩)
            | (go_at_call 13; go_split_ands; (with_reducible refine (money_any _ fp0 fp1 _ (Tab.below HT.out (by assumption))).mono ?_); rintro e w' ⟨rfl, hb⟩)
            | (go_at_call 11; go_split_ands; refine (line_run ((((R0.drew.pure (by assumption)).pure (by assumption)).pure (by assumption)).pure (by assumption)) [[105, 110, 115, 116, 97, 108, 109, 101, 110, 116], Lib.itoa d.n, dayL d.day, moneyL d.int, moneyL d.prin] 9 (by simp) hjb).mono ?_; rintro e w6 ⟨rfl, cs6, R6, hk6⟩; have kb := kept_blk hk6 (by assumption) (by omega) (by decide)))
        go_wp2
        go_roundg (s.dues.length - (j + 1))
        case measure => have := HK.out; omega
        case rel =>
          refine ⟨j + 1, cs6, rfl, by omega, by go_num, ?_, ?_⟩
          · rw [HTK.out, List.length_append]; have := HLN.out; omega
          · rw [HTK.out, ← List.append_assoc]; exact R6
      · have hjn : j = s.dues.length := by omega
        subst hjn
        rw [List.take_length] at R hlen
        have c11 := R.box.cell 11 (.int .i64 s.next) rfl
        have c12 := R.box.cell 12 (.int .i64 s.nday) rfl
        by_cases hz : s.next = 0
        · have HZ := Lib.hid hz
          have hzb : (s.next != 0) = false := by rw [hz]; rfl
          clear hz
          go_wp2_with fail
          go_call (string_any R.bl (headL_ne s _)) as _ w9 ⟨rfl, hb9⟩
          go_wp2
          go_ret
          refine ⟨ret_str ?_, R.below.trans (hb9.mono (by omega))⟩
          unfold textL nextL
          rw [if_pos HZ.out]; simp
        · have HZ := Lib.hid hz
          have hzb : (s.next != 0) = true := by simpa using hz
          clear hz
          have ld := dayL_len s.nday
          have li := itoa_length_le s.next HF.out.next.1 HF.out.next.2
          have hjl := joined3 [110, 101, 120, 116] (Lib.itoa s.next) (dayL s.nday)
          have hjb : (headL s ++ duesL s.dues).length + (joined [[110, 101, 120, 116], Lib.itoa s.next, dayL s.nday]).length ≤ 1000000000 := by
            rw [List.length_append, hjl]; simp only [List.length_cons, List.length_nil]; omega
          clear ld li hjl
          have fn0 : -9223372036854775808 ≤ s.next := HF.out.next.1
          have fn1 : s.next ≤ 9223372036854775807 := HF.out.next.2
          have B0 := R.box
          have hbl0 := R.below
          go_wp2_with fail
          go_region_held3 (fun w' => w'.cell? ⟨w.heap.size, 11, none⟩ = some (.int .i64 s.next) ∧ w'.cell? ⟨w.heap.size, 12, none⟩ = some (.int .i64 s.nday) ∧ Blk w' w.heap.size (cells s A c) 24 ∧ Below w.heap.size w w')
            (((try go_split_ands); (try dsimp only); (repeat' apply And.intro) <;> (first
              | (exact B0.drew) | (exact hbl0.drew) | (exact B0.drew.cell 11 _ rfl) | (exact B0.drew.cell 12 _ rfl)
              | (exact R6.box) | (exact R6.below) | (exact R6.box.cell 11 _ rfl) | (exact R6.box.cell 12 _ rfl)
              | (exact cell_below hb (by assumption)) | (exact Blk.below (by assumption) hb) | (exact below_self (by assumption) hb)
              | (exact Blk.alloc (by assumption) _) | (exact below_alloc' (by assumption) _) | go_keep)))
            (first
              | (go_at_call 14; go_split_ands; (with_reducible refine (itoa_any _ fn0 fn1 _ (Tab.below HT.out (by assumption))).mono ?_); rintro e w' ⟨rfl, hb⟩)
              | (go_at_call 12; go_split_ands; (with_reducible refine (sdate_any _ _ (Tab.below HT.out (by assumption))).mono ?_); rintro e w' ⟨rfl, hb⟩)
              | (go_at_call 11; go_split_ands; refine (line_run ((R.drew.pure (by assumption)).pure (by assumption)) [[110, 101, 120, 116], Lib.itoa s.next, dayL s.nday] 9 (by simp) hjb).mono ?_; rintro e w6 ⟨rfl, cs6, R6, hk6⟩))
          go_wp2_with fail
          go_call (string_any R6.bl (by rw [List.append_assoc]; exact headL_ne s _)) as _ w9 ⟨rfl, hb9⟩
          go_wp2
          go_ret
          refine ⟨ret_str ?_, R6.below.trans (hb9.mono (by omega))⟩
          unfold textL nextL lineL
          rw [if_neg HZ.out]
          simp
end Go.Proofs.YtkafeedmmghoeaaDoor.txt
