/- living.Margin. -/
import Derived.Test.YtmnpbopkhpbhiaaDead
set_option linter.unusedVariables false
set_option linter.unusedSimpArgs false
namespace Go.Proofs.Ytmnpbopkhpbhiaa
open Go.RowKit
set_option maxRecDepth 100000
def Gt.Margin (g : Gt) (alive : List Int) : List Int × Bool × Int :=
  if g.lcheck alive ≠ 0 then ([], false, g.lcheck alive) else if !g.can alive then ([], false, 0) else
    (((allSubs (g.own alive)).find? fun l => !g.can (minus (g.own alive) l)).getD [], ((allSubs (g.own alive)).find? fun l => !g.can (minus (g.own alive) l)).isSome, 0)
theorem Boxed.newDrew (w : World) (t : TypeId) (v : Value) : Boxed ((w.alloc (.cells #[v] t)).drew) w.heap.size t v := Boxed.new w t v
set_option maxHeartbeats 4000000 in
theorem Margin_spec (w : World) (g : Gt) (gv va : Value) (alive : List Int) (hg : IsG w g gv) (ha : Ints w va alive) :
    Calls Try.prog 23 #[gv, va] w fun e w' => ∃ v, e = .returned (.tuple #[v, .bool (g.Margin alive).2.1, .int .i64 (g.Margin alive).2.2]) ∧ Ints w' v (g.Margin alive).1 ∧ Same w w' := by
  obtain ⟨v, rfl, hv⟩ := hg
  obtain ⟨ag, ng, cg, rfl⟩ : ∃ a n c, v = .slice a n c := by obtain ⟨a, c, e, _⟩ := hv.gs; exact ⟨a, _, c, e⟩
  obtain ⟨al, nl, cl, rfl⟩ : ∃ a n c, va = .slice a n c := by obtain ⟨a, c, e, _⟩ := ha; exact ⟨a, _, c, e⟩
  obtain ⟨W1, hW1⟩ : ∃ W1, W1 = w.alloc (.cells #[.int .i64 g.p, .int .i64 g.n, .slice ag ng cg] 24) := ⟨_, rfl⟩
  have hS1 : Same w W1 := by rw [hW1]; exact (Same.refl w).alloc _
  have H1 := lcheck_spec W1 g _ _ alive ⟨_, rfl, hv.keep hS1.keep⟩ (ha.keep hS1.keep)
  have HA := Lib.hid ha
  have HW1 := Lib.hid hW1
  rw [hW1] at H1
  clear ha hv hW1
  have hL : g.Margin alive = if g.lcheck alive ≠ 0 then ([], false, g.lcheck alive) else if !g.can alive then ([], false, 0) else
    (((allSubs (g.own alive)).find? fun l => !g.can (minus (g.own alive) l)).getD [], ((allSubs (g.own alive)).find? fun l => !g.can (minus (g.own alive) l)).isSome, 0) := rfl
  have HL := Lib.hid hL
  have hPL : g.lcheck alive = 0 → g.people.length ≤ 12 := people_length
  have HPL := Lib.hid hPL
  clear hL hPL
  generalize hck : g.lcheck alive = ck at *
  clear hck
  go_enter Try.func23, Try.ntmps23
  go_wp2_with fail
  refine H1.mono ?_
  clear H1
  rintro e W2 ⟨p, n, a, b, a', b', o, o', rfl, hstr, hs2⟩
  rw [← HW1.out] at hs2
  have HS := Lib.hid hstr
  clear hstr
  by_cases hc0 : ck = 0
  · subst hc0
    obtain ⟨v', vp, e', hv', hp'⟩ := HS.out rfl
    simp at e'
    obtain ⟨rfl, rfl, rfl, rfl⟩ := e'
    obtain ⟨W3, hW3⟩ : ∃ W3, W3 = W2.alloc (.cells #[.int .i64 g.p, .int .i64 g.n, .slice o a b, .slice o' a' b'] 69) := ⟨_, rfl⟩
    have hS3 : Same W2 W3 := by rw [hW3]; exact (Same.refl W2).alloc _
    have hS13 : Same w W3 := (hS1.trans hs2).trans hS3
    have r3 : Rec W3 W2.heap.size 69 #[.int .i64 g.p, .int .i64 g.n, .slice o a b, .slice o' a' b'] := by rw [hW3]; exact Rec.new _ _ _
    have HAl := Lib.hid (HA.out.keep hS13.keep)
    have HP := Lib.hid (hp'.keep hS3.keep)
    have HV := Lib.hid (hv'.keep hS3.keep)
    have hsh := sholds_spec W3 g (.agg #[.int .i64 g.p, .int .i64 g.n, .slice o a b, .slice o' a' b']) (.slice al nl cl) g.people alive ⟨_, _, rfl, HV.out, HP.out⟩ HAl.out
    have hpl := HPL.out (by trivial)
    have HPL2 := Lib.hid hpl
    have HW3 := Lib.hid hW3
    have HR3 := Lib.hid r3
    rw [hW3] at hsh
    clear hv' hp' hW3 r3 hpl
    cases hcan : g.can alive with
    | false =>
      rw [hcan] at hsh
      have hLv : g.Margin alive = ([], false, 0) := by rw [HL.out]; simp [hcan]
      have HLV := Lib.hid hLv
      clear hLv hcan
      go_wp2_with fail
      refine hsh.mono ?_
      clear hsh
      rintro e W4 ⟨rfl, hs4⟩
      rw [← HW3.out] at hs4
      go_wp2_with fail
      go_ret3
      exact ⟨.slice none 0 0, by rw [HLV.out]; rfl, by rw [HLV.out]; exact Ints.nil' _ _, hS13.trans hs4⟩
    | true =>
      rw [hcan] at hsh
      have hLv : g.Margin alive = (((allSubs (g.own alive)).find? fun l => !g.can (minus (g.own alive) l)).getD [], ((allSubs (g.own alive)).find? fun l => !g.can (minus (g.own alive) l)).isSome, 0) := by rw [HL.out]; simp [hcan]
      have HLV := Lib.hid hLv
      clear hLv hcan
      go_wp2_with fail
      refine hsh.mono ?_
      clear hsh
      rintro e W4 ⟨rfl, hs4⟩
      rw [← HW3.out] at hs4
      have r4 := Rec.same hs4 HR3.out
      have q3 := r4.cell 3
      have l4 := r4.lt
      simp at q3
      have HP4 := Lib.hid (HP.out.keep hs4.keep)
      have HA4 := Lib.hid (HAl.out.keep hs4.keep)
      have HR4 := Lib.hid r4
      clear r4
      go_wp2_with fail
      go_region_held3 (fun W => W.cell? ⟨W2.heap.size, 3, none⟩ = some (.slice o' a' b') ∧ W4.heap.size ≤ W.heap.size ∧ Same W4 W)
        (first
          | exact ⟨q3, Nat.le_refl _, (Same.refl _).drew⟩
          | ((try go_split_ands); exact ⟨Keep.cell hs.keep (by assumption), Nat.le_trans (by assumption) hs.size, Same.trans (by assumption) hs⟩)
          | ((try go_split_ands); exact ⟨Keep.cell ((Same.refl _).alloc _).keep (by assumption), (by simp <;> omega), Same.alloc (by assumption) _⟩)
          | ((try go_split_ands); exact ⟨Keep.cell ((Same.refl _).alloc _).drew.keep q3, (by simp <;> omega), ((Same.refl _).alloc _).drew⟩)
          | ((try go_split_ands); exact ⟨(cell_far _ _ _ _ (by simp <;> omega)).trans (by assumption), (by simp <;> omega), Same.setCell (by assumption) (by simp <;> omega) _⟩)
          | exact ⟨Keep.cell ((Same.refl _).alloc _).keep hc2, (by have := hT2.size; simp <;> omega), hT2.alloc _⟩
          | exact ⟨(cell_far _ _ _ _ (by simp <;> omega)).trans hc2, (by have := hT2.size; simp <;> omega), hT2.setCell (by simp <;> omega) _⟩
          | go_keep)
        (first
          | (go_at_call 58; (try go_split_ands); refine (without_spec _ (.slice o' a' b') (.slice al nl cl) g.people alive (HP4.out.keep (Same.keep (by assumption))) (HA4.out.keep (Same.keep (by assumption)))).mono ?_; rintro e w1 ⟨v1, rfl, hi1, hs⟩; obtain ⟨a1, n1, c1, rfl⟩ := Ints.form hi1; have hsz1 := hs.size; have hT1 := Same.trans (by assumption : Same W4 _) hs; have hc1 := Keep.cell hs.keep (by assumption : World.cell? _ ⟨W2.heap.size, 3, none⟩ = some (.slice o' a' b')); (try (have hbx := Boxed.same hs (Boxed.new _ _ _))); (try (have hbx := Boxed.same hs (Boxed.newDrew _ _ _))); (try (have hbc := hbx.cell; have hbf := hbx.frozen; have hbl := hbx.lt)))
          | (go_at_call 58; (try go_split_ands); refine (without_spec _ (.slice o' a' b') (.slice a1 n1 c1) g.people (minus g.people alive) (HP4.out.keep (Same.keep (by assumption))) hi1).mono ?_; rintro e w2 ⟨v2, rfl, hi2, hs⟩; obtain ⟨a2, n2, c2, rfl⟩ := Ints.form hi2; have hsz2 := hs.size; have hT2 := Same.trans (by assumption : Same W4 _) hs; have hc2 := Keep.cell hs.keep (by assumption : World.cell? _ ⟨W2.heap.size, 3, none⟩ = some (.slice o' a' b')); (try (have hbx := Boxed.same hs hbx)); (try (have hbx := Boxed.same hs (Boxed.new _ _ _))); (try (have hbc := hbx.cell; have hbf := hbx.frozen; have hbl := hbx.lt)))
          | (go_at_call 58; (try go_split_ands); refine (without_spec _ (.slice o' a' b') (.slice a1 n1 c1) g.people (minus g.people alive) (HP4.out.keep (Same.keep (by assumption))) (hi1.keep ((Same.refl _).alloc _).keep)).mono ?_; rintro e w2 ⟨v2, rfl, hi2, hs⟩; obtain ⟨a2, n2, c2, rfl⟩ := Ints.form hi2; have hsz2 := hs.size; have hT2 := Same.trans (by assumption : Same W4 _) hs; have hc2 := Keep.cell hs.keep (by assumption : World.cell? _ ⟨W2.heap.size, 3, none⟩ = some (.slice o' a' b')); (try (have hbx := Boxed.same hs (Boxed.new _ _ _))); (try (have hbc := hbx.cell; have hbf := hbx.frozen; have hbl := hbx.lt))))
      · obtain ⟨X, hXe⟩ : ∃ X, X = w2.alloc (.cells #[.slice a2 n2 c2] 25) := ⟨_, rfl⟩
        have hSX : Same W4 X := by rw [hXe]; exact hT2.alloc _
        have hBX : Boxed X w2.heap.size 25 (.slice a2 n2 c2) := by rw [hXe]; exact Boxed.new _ _ _
        have hIX : Ints X (.slice a2 n2 c2) (g.own alive) := by rw [hXe]; exact hi2.keep ((Same.refl w2).alloc _).keep
        rw [← hXe]
        generalize w2.heap.size = Bo at *
        have cX := hBX.cell
        have HIX := Lib.hid hIX
        have HBX := Lib.hid hBX
        clear hIX hXe hi1 hi2 HA4
        (try clear hbc hbf hbl hbx)
        go_wp2_with fail
        refine (subsets_box X a2 n2 c2).mono ?_
        rintro e X6 ⟨b6, rfl, hb6, hs6⟩
        have hlen : (g.own alive).length ≤ 12 := Nat.le_trans (minus_length _ _) HPL2.out
        have hs46 := hSX.trans hs6
        have hs36 := hs4.trans hs46
        have hfs := first_subsets X6 b6 a2 n2 c2 (g.own alive) 64 #[] #[ptr W2.heap.size, ptr Bo] (fun l => !g.can (minus (g.own alive) l)) hb6 (HIX.out.keep hs6.keep) hlen enters_margin1
          (fun A y x hSA hy => margin1_spec A W2.heap.size Bo g g.people (g.own alive) x o o' a2 a b a' b' n2 c2 y ⟨_, _, rfl, HV.out.keep (hs36.trans hSA).keep, HP.out.keep (hs36.trans hSA).keep⟩ (HIX.out.keep (hs6.trans hSA).keep) hy
            (Rec.same (hs36.trans hSA) HR3.out) (Boxed.same (hs6.trans hSA) HBX.out))
        clear hlen
        go_wp2_with fail
        refine hfs.mono ?_
        clear hfs
        rintro e X7 ⟨v7, rfl, hi7, hs7⟩
        obtain ⟨a7, n7, c7, rfl⟩ := Ints.form hi7
        have HI7 := Lib.hid hi7
        clear hi7
        go_wp2_with fail
        go_ret3
        exact ⟨.slice a7 n7 c7, by rw [HLV.out]; rfl, by rw [HLV.out]; exact HI7.out, hS13.trans (hs36.trans hs7)⟩
      · obtain ⟨X, hXe⟩ : ∃ X, X = w2.setCell ⟨w1.heap.size, 0, none⟩ (.slice a2 n2 c2) := ⟨_, rfl⟩
        have hSX : Same W4 X := by rw [hXe]; exact hT2.setCell (p := ⟨w1.heap.size, 0, none⟩) hT1.size _
        have hBX : Boxed X w1.heap.size 25 (.slice a2 n2 c2) := by rw [hXe]; exact hbx.set _
        have hIX : Ints X (.slice a2 n2 c2) (g.own alive) := by rw [hXe]; exact hi2.setBox hbx (fun i h => by cases h) _
        rw [← hXe]
        generalize w1.heap.size = Bo at *
        have cX := hBX.cell
        have HIX := Lib.hid hIX
        have HBX := Lib.hid hBX
        clear hIX hXe hi1 hi2 HA4
        (try clear hbc hbf hbl hbx)
        go_wp2_with fail
        refine (subsets_box X a2 n2 c2).mono ?_
        rintro e X6 ⟨b6, rfl, hb6, hs6⟩
        have hlen : (g.own alive).length ≤ 12 := Nat.le_trans (minus_length _ _) HPL2.out
        have hs46 := hSX.trans hs6
        have hs36 := hs4.trans hs46
        have hfs := first_subsets X6 b6 a2 n2 c2 (g.own alive) 64 #[] #[ptr W2.heap.size, ptr Bo] (fun l => !g.can (minus (g.own alive) l)) hb6 (HIX.out.keep hs6.keep) hlen enters_margin1
          (fun A y x hSA hy => margin1_spec A W2.heap.size Bo g g.people (g.own alive) x o o' a2 a b a' b' n2 c2 y ⟨_, _, rfl, HV.out.keep (hs36.trans hSA).keep, HP.out.keep (hs36.trans hSA).keep⟩ (HIX.out.keep (hs6.trans hSA).keep) hy
            (Rec.same (hs36.trans hSA) HR3.out) (Boxed.same (hs6.trans hSA) HBX.out))
        clear hlen
        go_wp2_with fail
        refine hfs.mono ?_
        clear hfs
        rintro e X7 ⟨v7, rfl, hi7, hs7⟩
        obtain ⟨a7, n7, c7, rfl⟩ := Ints.form hi7
        have HI7 := Lib.hid hi7
        clear hi7
        go_wp2_with fail
        go_ret3
        exact ⟨.slice a7 n7 c7, by rw [HLV.out]; rfl, by rw [HLV.out]; exact HI7.out, hS13.trans (hs36.trans hs7)⟩
      · obtain ⟨X, hXe⟩ : ∃ X, X = w2.setCell ⟨W4.heap.size, 0, none⟩ (.slice a2 n2 c2) := ⟨_, rfl⟩
        have hSX : Same W4 X := by rw [hXe]; exact hT2.setCell (p := ⟨W4.heap.size, 0, none⟩) (Nat.le_refl _) _
        have hBX : Boxed X W4.heap.size 25 (.slice a2 n2 c2) := by rw [hXe]; exact hbx.set _
        have hIX : Ints X (.slice a2 n2 c2) (g.own alive) := by rw [hXe]; exact hi2.setBox hbx (fun i h => by cases h) _
        rw [← hXe]
        generalize W4.heap.size = Bo at *
        have cX := hBX.cell
        have HIX := Lib.hid hIX
        have HBX := Lib.hid hBX
        clear hIX hXe hi1 hi2 HA4
        (try clear hbc hbf hbl hbx)
        go_wp2_with fail
        refine (subsets_box X a2 n2 c2).mono ?_
        rintro e X6 ⟨b6, rfl, hb6, hs6⟩
        have hlen : (g.own alive).length ≤ 12 := Nat.le_trans (minus_length _ _) HPL2.out
        have hs46 := hSX.trans hs6
        have hs36 := hs4.trans hs46
        have hfs := first_subsets X6 b6 a2 n2 c2 (g.own alive) 64 #[] #[ptr W2.heap.size, ptr Bo] (fun l => !g.can (minus (g.own alive) l)) hb6 (HIX.out.keep hs6.keep) hlen enters_margin1
          (fun A y x hSA hy => margin1_spec A W2.heap.size Bo g g.people (g.own alive) x o o' a2 a b a' b' n2 c2 y ⟨_, _, rfl, HV.out.keep (hs36.trans hSA).keep, HP.out.keep (hs36.trans hSA).keep⟩ (HIX.out.keep (hs6.trans hSA).keep) hy
            (Rec.same (hs36.trans hSA) HR3.out) (Boxed.same (hs6.trans hSA) HBX.out))
        clear hlen
        go_wp2_with fail
        refine hfs.mono ?_
        clear hfs
        rintro e X7 ⟨v7, rfl, hi7, hs7⟩
        obtain ⟨a7, n7, c7, rfl⟩ := Ints.form hi7
        have HI7 := Lib.hid hi7
        clear hi7
        go_wp2_with fail
        go_ret3
        exact ⟨.slice a7 n7 c7, by rw [HLV.out]; rfl, by rw [HLV.out]; exact HI7.out, hS13.trans (hs36.trans hs7)⟩
  · have hb : (ck != 0) = true := by simpa using hc0
    have HC0 := Lib.hid hc0
    clear hc0
    go_wp2_with fail
    go_ret3
    refine ⟨.slice none 0 0, ?_, ?_, (hS1.trans hs2).alloc _⟩
    · rw [HL.out, if_pos HC0.out]; rfl
    · rw [HL.out, if_pos HC0.out]; exact Ints.nil' _ _
end Go.Proofs.Ytmnpbopkhpbhiaa
