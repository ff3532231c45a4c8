/- The references' small functions: signatoryref22.Holds, Few, Small; signatoryref24.Error, Permits, Few; signatoryref51.Error; signatorylaw51.few. -/
import Derived.Test.YtmnpbopkhpbhiaaPlain
import Derived.Test.YtmnpbopkhpbhiaaRefHolds
import Derived.Test.YtmnpbopkhpbhiaaRefPeople
set_option linter.unusedVariables false
set_option linter.unusedSimpArgs false
namespace Go.Proofs.Ytmnpbopkhpbhiaa
open Go.RowKit
set_option maxRecDepth 100000
/-- What the reference's Holds answers. -/
def Gt.rHolds (g : Gt) (who : List Int) : Bool × Int := if g.rcheck ≠ 0 then (false, g.rcheck) else if peopleFrom (-1) who then (g.holds who, 0) else (false, 1)
theorem rHolds_eq (g : Gt) (who : List Int) : g.rHolds who = g.Holds who := by unfold Gt.rHolds Gt.Holds; rw [check_eq]
set_option maxHeartbeats 2000000 in
theorem refHolds_spec (w : World) (g : Gt) (val v : Value) (who : List Int) (hg : IsG w g val) (hv : Ints w v who) :
    Calls Try.prog 106 #[val, v] w fun e w' => e = .returned (.tuple #[.bool (g.rHolds who).1, .int .i64 (g.rHolds who).2]) ∧ Same w w' := by
  obtain ⟨vg, rfl, hat⟩ := hg
  obtain ⟨a, n, c, rfl⟩ := hat.form
  obtain ⟨av, nv, cv, rfl, -⟩ := hv.slice
  obtain ⟨W1, hW1⟩ : ∃ W1, W1 = w.alloc (.cells #[.int .i64 g.p, .int .i64 g.n, .slice a n c] 24) := ⟨_, rfl⟩
  have hS1 : Same w W1 := by rw [hW1]; exact (Same.refl w).alloc _
  have hgb : ∀ W, Same W1 W → _ := fun W h => gbox (w := w) (W := W) (by rw [← hW1]; exact h)
  have hG := fun W (h : Same W1 W) => (⟨_, rfl, hat.keep (hS1.trans h).keep⟩ : IsG W g (.agg #[.int .i64 g.p, .int .i64 g.n, .slice a n c]))
  have HG := Lib.hid hG
  have HV := Lib.hid hv
  have HGB := Lib.hid hgb
  have H1 := refCheck_spec W1 g _ (hG W1 (Same.refl _))
  have H2 := fun W (h : Same W1 W) => refPeople_spec W _ who (HV.out.keep (hS1.trans h).keep)
  have H3 := fun W (h : Same W1 W) => refHolds_all (SizeOf.sizeOf g + 1) g W _ _ who (by omega) (HG.out W h) (HV.out.keep (hS1.trans h).keep)
  have hr : g.rHolds who = if g.rcheck ≠ 0 then (false, g.rcheck) else if peopleFrom (-1) who then (g.holds who, 0) else (false, 1) := rfl
  have HR := Lib.hid hr
  have HW1 := Lib.hid hW1
  rw [hW1] at H1
  clear hW1 hgb hG hv hat hr
  generalize g.rcheck = rc at *
  generalize hho : g.holds who = ho at *
  generalize peopleFrom (-1) who = pf at *
  clear hho
  go_enter Try.func106, Try.ntmps106
  go_wp2_with fail
  refine H1.mono ?_
  clear H1
  rintro e w2 ⟨rfl, hs2⟩
  rw [← HW1.out] at hs2
  obtain ⟨q0, q1, q2, lt⟩ := HGB.out _ hs2
  by_cases hc : rc = 0
  · subst hc
    have H2 := H2 w2 hs2
    go_wp2_with fail
    refine H2.mono ?_
    clear H2
    rintro e w3 ⟨rfl, hs3⟩
    have hs3 := hs2.trans hs3
    obtain ⟨q0, q1, q2, lt⟩ := HGB.out _ hs3
    cases pf with
    | true =>
      have H3 := H3 w3 hs3
      go_wp2_with fail
      refine H3.mono ?_
      clear H3
      rintro e w4 ⟨rfl, hs4⟩
      go_wp2_with fail
      go_ret2
      exact ⟨by rw [HR.out]; rfl, hS1.trans (hs3.trans hs4)⟩
    | false =>
      go_wp2_with fail
      go_ret2
      exact ⟨by rw [HR.out]; rfl, hS1.trans hs3⟩
  · have hb : (rc != 0) = true := by simpa using hc
    have HC := Lib.hid hc
    clear hc
    go_wp2_with fail
    go_ret2
    exact ⟨by rw [HR.out, if_pos HC.out]; rfl, hS1.trans hs2⟩
/-- What the reference's Few of layer 22 answers. -/
def Gt.few22 (g : Gt) : Bool := decide (g.lv 300 ≤ 60) || (decide (250 ≤ g.lv 300) && decide (g.lv 300 ≤ 300))
set_option maxHeartbeats 1000000 in
theorem few22_spec (w : World) (g : Gt) (val : Value) (hg : IsG w g val) :
    Calls Try.prog 73 #[val] w fun e w' => e = .returned (.bool g.few22) ∧ Same w w' := by
  obtain ⟨vg, rfl, hat⟩ := hg
  obtain ⟨a, n, c, rfl⟩ := hat.form
  obtain ⟨W1, hW1⟩ : ∃ W1, W1 = w.alloc (.cells #[.int .i64 g.p, .int .i64 g.n, .slice a n c] 24) := ⟨_, rfl⟩
  have hS1 : Same w W1 := by rw [hW1]; exact (Same.refl w).alloc _
  have H1 := Leaves_all (SizeOf.sizeOf g + 1) g W1 _ 300 (by omega) ⟨_, rfl, hat.keep hS1.keep⟩ (by omega) (by omega)
  have hf : g.few22 = (decide (g.lv 300 ≤ 60) || (decide (250 ≤ g.lv 300) && decide (g.lv 300 ≤ 300))) := rfl
  have HF := Lib.hid hf
  have HW1 := Lib.hid hW1
  rw [hW1] at H1
  clear hW1 hat hf
  generalize g.lv 300 = lv at *
  go_enter Try.func73, Try.ntmps73
  go_wp2_with fail
  refine H1.mono ?_
  clear H1
  rintro e w2 ⟨rfl, hs2⟩
  rw [← HW1.out] at hs2
  have HS2 := hS1.trans hs2
  by_cases h1 : lv ≤ 60
  · go_wp2_with fail
    go_ret
    exact ⟨ret_bool (by rw [HF.out]; simp [h1]), HS2⟩
  · by_cases h2 : 250 ≤ lv
    · by_cases h3 : lv ≤ 300
      · go_wp2_with fail
        go_ret
        exact ⟨ret_bool (by rw [HF.out]; simp [h1, h2, h3]), HS2⟩
      · go_wp2_with fail
        go_ret
        exact ⟨ret_bool (by rw [HF.out]; simp [h1, h2, h3]), HS2⟩
    · go_wp2_with fail
      go_ret
      exact ⟨ret_bool (by rw [HF.out]; simp [h1, h2]; omega), HS2⟩
/-- What the reference's Small answers. -/
def Gt.small (g : Gt) : Bool := decide (g.lv 60 ≤ 60) && decide (g.rcheck = 0)
set_option maxHeartbeats 1000000 in
theorem small_spec (w : World) (g : Gt) (val : Value) (hg : IsG w g val) :
    Calls Try.prog 74 #[val] w fun e w' => e = .returned (.bool g.small) ∧ Same w w' := by
  obtain ⟨vg, rfl, hat⟩ := hg
  obtain ⟨a, n, c, rfl⟩ := hat.form
  obtain ⟨W1, hW1⟩ : ∃ W1, W1 = w.alloc (.cells #[.int .i64 g.p, .int .i64 g.n, .slice a n c] 24) := ⟨_, rfl⟩
  have hS1 : Same w W1 := by rw [hW1]; exact (Same.refl w).alloc _
  have hgb : ∀ W, Same W1 W → _ := fun W h => gbox (w := w) (W := W) (by rw [← hW1]; exact h)
  have H1 := Leaves_all (SizeOf.sizeOf g + 1) g W1 _ 60 (by omega) ⟨_, rfl, hat.keep hS1.keep⟩ (by omega) (by omega)
  have H2 := fun W (h : Same W1 W) => refCheck_spec W g (.agg #[.int .i64 g.p, .int .i64 g.n, .slice a n c]) ⟨_, rfl, hat.keep (hS1.trans h).keep⟩
  have hf : g.small = (decide (g.lv 60 ≤ 60) && decide (g.rcheck = 0)) := rfl
  have HF := Lib.hid hf
  have HGB := Lib.hid hgb
  have HW1 := Lib.hid hW1
  rw [hW1] at H1
  clear hW1 hat hf hgb
  generalize g.lv 60 = lv at *
  generalize g.rcheck = rc at *
  go_enter Try.func74, Try.ntmps74
  go_wp2_with fail
  refine H1.mono ?_
  clear H1
  rintro e w2 ⟨rfl, hs2⟩
  rw [← HW1.out] at hs2
  have HS2 := hS1.trans hs2
  obtain ⟨q0, q1, q2, lt⟩ := HGB.out _ hs2
  have H2 := H2 w2 hs2
  by_cases h1 : lv ≤ 60
  · go_wp2_with fail
    refine H2.mono ?_
    clear H2
    rintro e w3 ⟨rfl, hs3⟩
    go_wp2_with fail
    go_ret
    exact ⟨ret_bool (by rw [HF.out]; simp [h1]; first | rfl | (by_cases h : rc = 0 <;> simp [h])), HS2.trans hs3⟩
  · go_wp2_with fail
    go_ret
    exact ⟨ret_bool (by rw [HF.out]; simp [h1]; try omega), HS2⟩
/-- What the reference's Error of layer 24 answers. -/
def Gt.rerr (g : Gt) : Int := if g.rcheck ≠ 0 then g.rcheck else if 12 < g.rpeople.length then 2 else 0
set_option maxHeartbeats 1000000 in
theorem rerr_spec (w : World) (g : Gt) (val : Value) (hg : IsG w g val) :
    Calls Try.prog 68 #[val] w fun e w' => e = .returned (.int .i64 g.rerr) ∧ Same w w' := by
  obtain ⟨vg, rfl, hat⟩ := hg
  obtain ⟨a, n, c, rfl⟩ := hat.form
  obtain ⟨W1, hW1⟩ : ∃ W1, W1 = w.alloc (.cells #[.int .i64 g.p, .int .i64 g.n, .slice a n c] 24) := ⟨_, rfl⟩
  have hS1 : Same w W1 := by rw [hW1]; exact (Same.refl w).alloc _
  have hgb : ∀ W, Same W1 W → _ := fun W h => gbox (w := w) (W := W) (by rw [← hW1]; exact h)
  have H1 := refCheck_spec W1 g _ ⟨_, rfl, hat.keep hS1.keep⟩
  have hP := fun (hc : g.rcheck = 0) W (h : Same W1 W) => refPeopleOf_spec W g (.agg #[.int .i64 g.p, .int .i64 g.n, .slice a n c]) ⟨_, rfl, hat.keep (hS1.trans h).keep⟩ (by have := ppl_check hc; omega)
  have hf : g.rerr = if g.rcheck ≠ 0 then g.rcheck else if 12 < g.rpeople.length then 2 else 0 := rfl
  have HF := Lib.hid hf
  have HP := Lib.hid hP
  have HGB := Lib.hid hgb
  have HW1 := Lib.hid hW1
  rw [hW1] at H1
  clear hW1 hat hf hgb hP
  generalize g.rcheck = rc at *
  go_enter Try.func68, Try.ntmps68
  go_wp2_with fail
  refine H1.mono ?_
  clear H1
  rintro e w2 ⟨rfl, hs2⟩
  rw [← HW1.out] at hs2
  have HS2 := hS1.trans hs2
  obtain ⟨q0, q1, q2, lt⟩ := HGB.out _ hs2
  by_cases hc : rc = 0
  · subst hc
    have H2 := HP.out rfl w2 hs2
    go_wp2_with fail
    refine H2.mono ?_
    clear H2
    rintro e w3 ⟨v3, rfl, hi3, hs3⟩
    obtain ⟨a3, n3, c3, rfl, hn3⟩ := hi3.slice
    have HN := Lib.hid hn3
    clear hi3 hn3
    by_cases h12 : 12 < n3
    · go_wp2_with fail
      go_ret
      exact ⟨ret_int (by rw [HF.out, ← HN.out]; simp [h12]), HS2.trans hs3⟩
    · go_wp2_with fail
      go_ret
      exact ⟨ret_int (by rw [HF.out, ← HN.out]; simp [h12]), HS2.trans hs3⟩
  · have hb : (rc != 0) = true := by simpa using hc
    have HC := Lib.hid hc
    clear hc
    go_wp2_with fail
    go_ret
    exact ⟨ret_int (by rw [HF.out, if_pos HC.out]), HS2⟩
set_option maxHeartbeats 1000000 in
theorem permits_spec (w : World) (g : Gt) (val v : Value) (who : List Int) (hg : IsG w g val) (hv : Ints w v who) :
    Calls Try.prog 63 #[val, v] w fun e w' => e = .returned (.bool (g.rHolds who).1) ∧ Same w w' := by
  obtain ⟨vg, rfl, hat⟩ := hg
  obtain ⟨a, n, c, rfl⟩ := hat.form
  obtain ⟨av, nv, cv, rfl, -⟩ := hv.slice
  obtain ⟨W1, hW1⟩ : ∃ W1, W1 = w.alloc (.cells #[.int .i64 g.p, .int .i64 g.n, .slice a n c] 24) := ⟨_, rfl⟩
  have hS1 : Same w W1 := by rw [hW1]; exact (Same.refl w).alloc _
  have H1 := refHolds_spec W1 g _ _ who ⟨_, rfl, hat.keep hS1.keep⟩ (hv.keep hS1.keep)
  have HW1 := Lib.hid hW1
  rw [hW1] at H1
  clear hW1 hat hv
  generalize g.rHolds who = rh at *
  obtain ⟨r1, r2⟩ := rh
  go_enter Try.func63, Try.ntmps63
  go_wp2_with fail
  refine H1.mono ?_
  clear H1
  rintro e w2 ⟨rfl, hs2⟩
  rw [← HW1.out] at hs2
  go_wp2_with fail
  go_ret
  exact ⟨rfl, hS1.trans hs2⟩
/-- What the reference's Few of layer 24 answers. -/
def Gt.few24 (g : Gt) : Bool := g.few22 && (decide (g.rerr ≠ 0) || (g.small && decide (g.rpeople.length ≤ 7)))
theorem rerr_check {g : Gt} (h : g.rerr = 0) : g.rcheck = 0 := by
  unfold Gt.rerr at h
  split at h
  · exact h
  · simp_all
set_option maxHeartbeats 2000000 in
theorem few24_spec (w : World) (g : Gt) (val : Value) (hg : IsG w g val) :
    Calls Try.prog 35 #[val] w fun e w' => e = .returned (.bool g.few24) ∧ Same w w' := by
  obtain ⟨vg, rfl, hat⟩ := hg
  obtain ⟨a, n, c, rfl⟩ := hat.form
  obtain ⟨W1, hW1⟩ : ∃ W1, W1 = w.alloc (.cells #[.int .i64 g.p, .int .i64 g.n, .slice a n c] 24) := ⟨_, rfl⟩
  have hS1 : Same w W1 := by rw [hW1]; exact (Same.refl w).alloc _
  have hgb : ∀ W, Same W1 W → _ := fun W h => gbox (w := w) (W := W) (by rw [← hW1]; exact h)
  have hG := fun W (h : Same W1 W) => (⟨_, rfl, hat.keep (hS1.trans h).keep⟩ : IsG W g (.agg #[.int .i64 g.p, .int .i64 g.n, .slice a n c]))
  have H1 := few22_spec W1 g _ (hG W1 (Same.refl _))
  have H2 := fun W (h : Same W1 W) => rerr_spec W g _ (hG W h)
  have H3 := fun W (h : Same W1 W) => small_spec W g _ (hG W h)
  have hP := fun (hc : g.rerr = 0) W (h : Same W1 W) => refPeopleOf_spec W g _ (hG W h) (by have := ppl_check (rerr_check hc); omega)
  have hf : g.few24 = (g.few22 && (decide (g.rerr ≠ 0) || (g.small && decide (g.rpeople.length ≤ 7)))) := rfl
  have HF := Lib.hid hf
  have HP := Lib.hid hP
  have HGB := Lib.hid hgb
  have HW1 := Lib.hid hW1
  rw [hW1] at H1
  clear hW1 hat hf hgb hP hG
  generalize g.rerr = rc at *
  generalize g.few22 = f22 at *
  generalize g.small = sm at *
  go_enter Try.func35, Try.ntmps35
  go_wp2_with fail
  refine H1.mono ?_
  clear H1
  rintro e w2 ⟨rfl, hs2⟩
  rw [← HW1.out] at hs2
  obtain ⟨q0, q1, q2, lt⟩ := HGB.out _ hs2
  have H2 := H2 w2 hs2
  cases f22 with
  | false =>
    go_wp2_with fail
    go_ret
    exact ⟨ret_bool (by rw [HF.out]; rfl), hS1.trans hs2⟩
  | true =>
    by_cases hc : rc = 0
    · subst hc
      go_wp2_with fail
      refine H2.mono ?_
      clear H2
      rintro e w3 ⟨rfl, hs3⟩
      have hs3 := hs2.trans hs3
      obtain ⟨q0, q1, q2, lt⟩ := HGB.out _ hs3
      have H3 := H3 w3 hs3
      go_wp2_with fail
      refine H3.mono ?_
      clear H3
      rintro e w4 ⟨rfl, hs4⟩
      have hs4 := hs3.trans hs4
      obtain ⟨q0, q1, q2, lt⟩ := HGB.out _ hs4
      cases sm with
      | false =>
        go_wp2_with fail
        go_ret
        exact ⟨ret_bool (by rw [HF.out]; simp), hS1.trans hs4⟩
      | true =>
        have H4 := HP.out (by simp) w4 hs4
        go_wp2_with fail
        refine H4.mono ?_
        clear H4
        rintro e w5 ⟨v5, rfl, hi5, hs5⟩
        obtain ⟨a5, n5, c5, rfl, hn5⟩ := hi5.slice
        have HN := Lib.hid hn5
        clear hi5 hn5
        go_wp2_with fail
        go_ret
        exact ⟨ret_bool (by rw [HF.out, ← HN.out]; simp; omega), hS1.trans (hs4.trans hs5)⟩
    · have hb : (rc != 0) = true := by simpa using hc
      have HC := Lib.hid hc
      clear hc
      go_wp2_with fail
      refine H2.mono ?_
      clear H2
      rintro e w3 ⟨rfl, hs3⟩
      go_wp2_with fail
      go_ret
      exact ⟨ret_bool (by rw [HF.out]; simp [HC.out]), hS1.trans (hs2.trans hs3)⟩
/-- What the reference's Error of layer 51 answers. -/
def Gt.rerr51 (g : Gt) (alive : List Int) : Int := if g.rerr ≠ 0 then g.rerr else if peopleFrom (-1) alive then 0 else 1
set_option maxHeartbeats 2000000 in
theorem rerr51_spec (w : World) (g : Gt) (val v : Value) (who : List Int) (hg : IsG w g val) (hv : Ints w v who) :
    Calls Try.prog 28 #[val, v] w fun e w' => e = .returned (.int .i64 (g.rerr51 who)) ∧ Same w w' := by
  obtain ⟨vg, rfl, hat⟩ := hg
  obtain ⟨a, n, c, rfl⟩ := hat.form
  obtain ⟨av, nv, cv, rfl, -⟩ := hv.slice
  obtain ⟨W1, hW1⟩ : ∃ W1, W1 = w.alloc (.cells #[.int .i64 g.p, .int .i64 g.n, .slice a n c] 24) := ⟨_, rfl⟩
  have hS1 : Same w W1 := by rw [hW1]; exact (Same.refl w).alloc _
  have H1 := rerr_spec W1 g _ ⟨_, rfl, hat.keep hS1.keep⟩
  have HV := Lib.hid hv
  have H2 := fun W (h : Same W1 W) => refPeople_spec W _ who (HV.out.keep (hS1.trans h).keep)
  have hf : g.rerr51 who = if g.rerr ≠ 0 then g.rerr else if peopleFrom (-1) who then 0 else 1 := rfl
  have HF := Lib.hid hf
  have HW1 := Lib.hid hW1
  rw [hW1] at H1
  clear hW1 hat hf hv
  generalize g.rerr = rc at *
  generalize peopleFrom (-1) who = pf at *
  go_enter Try.func28, Try.ntmps28
  go_wp2_with fail
  refine H1.mono ?_
  clear H1
  rintro e w2 ⟨rfl, hs2⟩
  rw [← HW1.out] at hs2
  have H2 := H2 w2 hs2
  by_cases hc : rc = 0
  · subst hc
    go_wp2_with fail
    refine H2.mono ?_
    clear H2
    rintro e w3 ⟨rfl, hs3⟩
    cases pf with
    | true =>
      go_wp2_with fail
      go_ret
      exact ⟨ret_int (by rw [HF.out]; rfl), hS1.trans (hs2.trans hs3)⟩
    | false =>
      go_wp2_with fail
      go_ret
      exact ⟨ret_int (by rw [HF.out]; rfl), hS1.trans (hs2.trans hs3)⟩
  · have hb : (rc != 0) = true := by simpa using hc
    have HC := Lib.hid hc
    clear hc
    go_wp2_with fail
    go_ret
    exact ⟨ret_int (by rw [HF.out, if_pos HC.out]), hS1.trans hs2⟩
set_option maxHeartbeats 1000000 in
theorem few51_spec (w : World) (g : Gt) (val v : Value) (who : List Int) (hg : IsG w g val) (hv : Ints w v who) :
    Calls Try.prog 19 #[val, v] w fun e w' => e = .returned (.bool (g.few24 && decide (who.length ≤ 80))) ∧ Same w w' := by
  obtain ⟨vg, rfl, hat⟩ := hg
  obtain ⟨a, n, c, rfl⟩ := hat.form
  obtain ⟨av, nv, cv, rfl, hnv⟩ := hv.slice
  obtain ⟨W1, hW1⟩ : ∃ W1, W1 = w.alloc (.cells #[.int .i64 g.p, .int .i64 g.n, .slice a n c] 24) := ⟨_, rfl⟩
  have hS1 : Same w W1 := by rw [hW1]; exact (Same.refl w).alloc _
  have H1 := few24_spec W1 g _ ⟨_, rfl, hat.keep hS1.keep⟩
  have HW1 := Lib.hid hW1
  have HNV := Lib.hid hnv
  rw [hW1] at H1
  clear hW1 hat hv hnv
  generalize g.few24 = f at *
  go_enter Try.func19, Try.ntmps19
  go_wp2_with fail
  refine H1.mono ?_
  clear H1
  rintro e w2 ⟨rfl, hs2⟩
  rw [← HW1.out] at hs2
  cases f with
  | true =>
    go_wp2_with fail
    go_ret
    exact ⟨ret_bool (by rw [← HNV.out]; simp; omega), hS1.trans hs2⟩
  | false =>
    go_wp2_with fail
    go_ret
    exact ⟨ret_bool rfl, hS1.trans hs2⟩
end Go.Proofs.Ytmnpbopkhpbhiaa
