/- PLAIN: a statement's text has its lines; the walk of the statement on them. -/
import Derived.Test.YtkafeedmmghoeaaDoorAwake
import Derived.Test.YtkafeedmmghoeaaDoorRText
namespace Go.Proofs.YtkafeedmmghoeaaDoor.lns
open Go.RowKit Go.Lib base dec bld lin txt awk

theorem _root_.Go.Proofs.YtkafeedmmghoeaaDoor.txt.DuesAt.below {w w1 : World} {A : Option Addr} {ds : List Due} (h : DuesAt w A ds) (hb : Below w.heap.size w w1) : DuesAt w1 A ds := by
  rcases h with h | ⟨bk, o, rfl, h⟩
  · exact .inl h
  · refine .inr ⟨bk, o, rfl, fun j d hj => ?_⟩
    obtain ⟨e0, e1, e2, e3⟩ := h j d hj
    exact ⟨cell_below hb e0, cell_below hb e1, cell_below hb e2, cell_below hb e3⟩
def no10 (l : List UInt8) : Prop := ∀ c ∈ l, c ≠ 10
theorem no10_app {a b : List UInt8} (ha : no10 a) (hb : no10 b) : no10 (a ++ b) := fun c hc => (List.mem_append.1 hc).elim (ha c) (hb c)
theorem no10_cons {a : UInt8} {b : List UInt8} (ha : a ≠ 10) (hb : no10 b) : no10 (a :: b) := fun c hc => (List.mem_cons.1 hc).elim (fun e => e ▸ ha) (hb c)
theorem no10_dig (u : Nat) : no10 (Lib.decDigits u) := by
  have key : ∀ d : Nat, d < 10 → UInt8.ofNat (48 + d) ≠ 10 := by
    intro d hd
    obtain rfl | rfl | rfl | rfl | rfl | rfl | rfl | rfl | rfl | rfl : d = 0 ∨ d = 1 ∨ d = 2 ∨ d = 3 ∨ d = 4 ∨ d = 5 ∨ d = 6 ∨ d = 7 ∨ d = 8 ∨ d = 9 := by omega
    all_goals decide
  induction u using Nat.strongRecOn with
  | _ u ih =>
    by_cases h : u < 10
    · rw [decDigits, dif_pos h]
      exact no10_cons (key u h) (fun _ h => by cases h)
    · rw [decDigits, dif_neg h]
      exact no10_app (ih (u / 10) (by omega)) (no10_cons (key _ (by omega)) (fun _ h => by cases h))
theorem no10_itoa (n : Int) : no10 (Lib.itoa n) := by
  unfold Lib.itoa
  split
  · exact no10_cons (by decide) (no10_dig _)
  · exact no10_dig _
theorem no10_nil : no10 [] := fun _ h => by cases h
theorem no10_rep (n : Nat) : no10 (List.replicate n 48) := fun c hc => by rw [(List.mem_replicate.1 hc).2]; decide
theorem no10_digs (v n : Nat) : no10 (dig v n) := no10_app (no10_rep _) (no10_dig _)
theorem no10_money (v : Int) : no10 (moneyL v) := by
  unfold moneyL
  refine no10_app ?_ (no10_app (no10_digs _ _) (no10_cons (by decide) (no10_digs _ _)))
  unfold sign
  split
  · exact no10_cons (by decide) no10_nil
  · exact no10_nil
theorem no10_two (n : Int) : no10 (twoL n) := no10_app (no10_itoa _) (no10_itoa _)
theorem no10_day (n : Int) : no10 (dayL n) := by
  by_cases hx : ∃ y m d, civ.IsDate n y m d
  · obtain ⟨y, m, d, hd⟩ := hx
    rw [dayL_yes hd]
    exact no10_app (no10_itoa _) (no10_cons (by decide) (no10_app (no10_two _) (no10_cons (by decide) (no10_two _))))
  · unfold dayL
    rw [dif_neg hx]
    intro c hc
    simp at hc
    rcases hc with rfl | rfl | rfl | rfl <;> decide
theorem count_no10 {l : List UInt8} (h : no10 l) : l.count 10 = 0 := List.count_eq_zero.2 fun hm => h 10 hm rfl
theorem count_line {l : List UInt8} (h : no10 l) : (l ++ [10]).count 10 = 1 := by rw [List.count_append, count_no10 h]; rfl
theorem line2 {a b : List UInt8} (ha : no10 a) (hb : no10 b) : (lineL [a, b]).count 10 = 1 := by
  unfold lineL; rw [joined2_eq]; exact count_line (no10_app ha (no10_cons (by decide) hb))
theorem line3 {a b c : List UInt8} (ha : no10 a) (hb : no10 b) (hc : no10 c) : (lineL [a, b, c]).count 10 = 1 := by
  unfold lineL; rw [joined3_eq]; exact count_line (no10_app ha (no10_cons (by decide) (no10_app hb (no10_cons (by decide) hc))))
theorem line5 {a b c d e : List UInt8} (ha : no10 a) (hb : no10 b) (hc : no10 c) (hd : no10 d) (he : no10 e) : (lineL [a, b, c, d, e]).count 10 = 1 := by
  unfold lineL; rw [joined5_eq]
  exact count_line (no10_app ha (no10_cons (by decide) (no10_app hb (no10_cons (by decide) (no10_app hc (no10_cons (by decide) (no10_app hd (no10_cons (by decide) he))))))))
theorem no10_lit (l : List UInt8) (h : l.all (fun c => c != 10) = true) : no10 l := fun c hc => by
  have := List.all_eq_true.1 h c hc
  simpa using this
theorem no10_how (o c : Bool) : no10 (how o c) := by cases o <;> cases c <;> exact no10_lit _ (by decide)
theorem count_dues (ds : List Due) : (duesL ds).count 10 = ds.length := by
  unfold duesL
  induction ds with
  | nil => rfl
  | cons d r ih =>
    rw [List.map_cons, List.flatten_cons, List.count_append, ih]
    have : (dueL d).count 10 = 1 := line5 (no10_lit _ (by decide)) (no10_itoa _) (no10_day _) (no10_money _) (no10_money _)
    rw [this, List.length_cons]; omega
theorem count_text (s : St) : (textL s).count 10 = 8 + s.dues.length + (if s.next = 0 then 0 else 1) := by
  unfold textL headL nextL
  simp only [List.count_append, count_dues]
  rw [line2 (no10_day _) (no10_how _ _), line2 (no10_lit _ (by decide)) (no10_money _), line2 (no10_lit _ (by decide)) (no10_money _), line2 (no10_lit _ (by decide)) (no10_money _), line2 (no10_lit _ (by decide)) (no10_money _), line2 (no10_lit _ (by decide)) (no10_money _), line2 (no10_lit _ (by decide)) (no10_money _), line2 (no10_lit _ (by decide)) (no10_money _)]
  split
  · simp
  · rw [line3 (no10_lit _ (by decide)) (no10_itoa _) (no10_day _)]
theorem ends_app {a b : List UInt8} (hb : ∃ x, b = x ++ [10]) : ∃ x, a ++ b = x ++ [10] := by
  obtain ⟨x, rfl⟩ := hb
  exact ⟨a ++ x, by rw [List.append_assoc]⟩
theorem ends_text (s : St) : ∃ x, textL s = x ++ [10] := by
  have hh : ∃ x, headL s = x ++ [10] := by unfold headL lineL; exact ends_app ⟨_, rfl⟩
  have hd : ∀ ds : List Due, ∃ x, headL s ++ duesL ds = x ++ [10] := by
    intro ds
    rcases List.eq_nil_or_concat ds with rfl | ⟨r, d, rfl⟩
    · obtain ⟨x, e⟩ := hh; exact ⟨x, by simpa [duesL] using e⟩
    · refine ends_app ?_
      unfold duesL
      rw [List.concat_eq_append, List.map_append, List.flatten_append]
      exact ends_app ⟨joined [[105, 110, 115, 116, 97, 108, 109, 101, 110, 116], Lib.itoa d.n, dayL d.day, moneyL d.int, moneyL d.prin], by simp [dueL, lineL]⟩
  unfold textL nextL
  split
  · obtain ⟨x, e⟩ := hd s.dues; exact ⟨x, by simpa using e⟩
  · exact ends_app ⟨_, rfl⟩
theorem text_len (s : St) (hf : StFit s) (hn : s.dues.length ≤ 100) : (textL s).length ≤ 1000000 := by
  have hx : ∀ (ds : List Due), (∀ d ∈ ds, DueFit d) → (duesL ds).length ≤ 500 * ds.length := by
    intro ds hds
    unfold duesL
    induction ds with
    | nil => simp
    | cons d r ih =>
      have h1 := dueL_len d (hds d (by simp))
      have h2 := ih (fun x hx => hds x (by simp [hx]))
      simp only [List.map_cons, List.flatten_cons, List.length_append, List.length_cons]
      omega
  have h1 := hx s.dues hf.dues
  have ld := dayL_len s.day
  have lh : (how s.opn s.cld).length ≤ 6 := by unfold how; split <;> (try split) <;> simp
  have l1 := moneyL_len s.prin hf.prin.1 hf.prin.2
  have l2 := moneyL_len s.acc hf.acc.1 hf.acc.2
  have l3 := moneyL_len s.int hf.int.1 hf.int.2
  have l4 := moneyL_len s.due hf.due.1 hf.due.2
  have l5 := moneyL_len s.pen hf.pen.1 hf.pen.2
  have l6 := moneyL_len s.fees hf.fees.1 hf.fees.2
  have l7 := moneyL_len s.una hf.una.1 hf.una.2
  have l8 := itoa_length_le s.next hf.next.1 hf.next.2
  have l9 := dayL_len s.nday
  unfold textL headL nextL lineL
  split <;> simp only [List.length_append, joined2, joined3, List.length_cons, List.length_nil] <;> omega
end Go.Proofs.YtkafeedmmghoeaaDoor.lns
