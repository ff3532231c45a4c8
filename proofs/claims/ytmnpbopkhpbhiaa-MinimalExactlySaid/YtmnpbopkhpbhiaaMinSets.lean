/- minimal.Sets, minimal.Blocks. -/
import Derived.Test.YtmnpbopkhpbhiaaMinAll
set_option linter.unusedVariables false
set_option linter.unusedSimpArgs false
namespace Go.Proofs.Ytmnpbopkhpbhiaa
open Go.RowKit
set_option maxRecDepth 100000
/-- What permits (false), what blocks (true). -/
def Gt.hK (g : Gt) (b : Bool) : List Int → Bool := if b then g.hB else g.holds
def Gt.setsK (g : Gt) (b : Bool) : List (List Int) := setsP g.rpeople (g.hK b)
def Gt.sErr (g : Gt) (b : Bool) : Int := if g.rerr ≠ 0 then g.rerr else tooMany (g.setsK b).length
def Gt.sOut (g : Gt) (b : Bool) : List (List Int) := if g.sErr b = 0 then g.setsK b else []
theorem hK_Mono (g : Gt) (b : Bool) (ps : List Int) : Mono ps (g.hK b) := by
  cases b
  · exact holds_Mono g ps
  · exact hB_Mono g ps
theorem allR_out {g : Gt} {b : Bool} {L xss : List (List Int)} (he : g.rerr = 0) (hp : L.Perm (g.setsK b)) (h : AllR L xss) : xss = g.sOut b ∧ tooMany L.length = g.sErr b := by
  have hl := hp.length_eq
  have he2 : g.sErr b = tooMany L.length := by rw [Gt.sErr, if_neg (by simp [he]), hl]
  refine ⟨?_, he2.symm⟩
  unfold AllR at h
  unfold Gt.sOut
  rw [he2, tooMany]
  by_cases hb : 256 < L.length
  · rw [if_pos hb] at h
    rw [if_pos hb, if_neg (by decide)]; exact h
  · rw [if_neg hb] at h
    rw [if_neg hb, if_pos rfl]
    exact before_unique (h.1.trans hp) h.2 (setsP_order (rpeople_sorted g) _)
theorem setsK_len {g : Gt} {b : Bool} {x : List Int} (h : x ∈ g.setsK b) : x.length ≤ g.rpeople.length := ((setsP_mem _ _ _).1 h).1.length_le
theorem Fine.form {W : World} {f : Value} {n : Nat} {F : Nat → Bool} (h : Fine W f n F) : ∃ k fst lb, f = .func (.func k) fst lb := by
  obtain ⟨k, fst, lb, e, _⟩ := h; exact ⟨k, fst, lb, e⟩
set_option maxHeartbeats 4000000 in
theorem Sets_own (w : World) (g : Gt) (val : Value) (hg : IsG w g val) :
    Calls Try.prog 36 #[val] w fun e w' => ∃ v' us, e = .returned (.tuple #[v', .int .i64 (g.sErr false)]) ∧ Own w' w.heap.size 25 v' us ∧ Rows w' w.heap.size us (g.sOut false) ∧ Same w w' := by
  obtain ⟨vg, rfl, hat⟩ := hg
  obtain ⟨a, n, c, rfl⟩ := hat.form
  obtain ⟨W1, hW1⟩ : ∃ W1, W1 = w.alloc (.cells #[.int .i64 g.p, .int .i64 g.n, .slice a n c] 24) := ⟨_, rfl⟩
  have hS1 : Same w W1 := by rw [hW1]; exact (Same.refl w).alloc _
  have H1 := ask_spec W1 g _ (⟨_, rfl, hat.keep hS1.keep⟩ : IsG W1 g (.agg #[.int .i64 g.p, .int .i64 g.n, .slice a n c]))
  have hE : g.sErr false = if g.rerr ≠ 0 then g.rerr else tooMany (g.setsK false).length := rfl
  have hO : g.rerr ≠ 0 → g.sOut false = [] := fun h => by rw [Gt.sOut, hE, if_pos h, if_neg h]
  have HE := Lib.hid hE
  have HO := Lib.hid hO
  have HW1 := Lib.hid hW1
  rw [hW1] at H1
  clear hW1 hat hE hO
  generalize hrc : g.rerr = rc at *
  have HRC := Lib.hid hrc
  clear hrc
  go_enter Try.func36, Try.ntmps36
  go_wp2_with fail
  refine H1.mono ?_
  clear H1
  rintro e w2 ⟨q, rfl, ⟨aq, nq, cq, uq, fq, rfl, hfq⟩, hq, hs2⟩
  rw [← HW1.out] at hs2
  have HQ := Lib.hid hq
  clear hq
  by_cases hc : rc = 0
  · subst hc
    have hq := HQ.out rfl
    have HF := Lib.hid hq.fine
    obtain ⟨kf, fst, lb, rfl⟩ := hq.fine.form
    have hS3 : Same w2 (w2.alloc (.cells #[.slice aq nq cq, .int .u64 uq, .func (.func kf) fst lb] 87)) := (Same.refl w2).alloc _
    have hA := allq_spec _ g.rpeople g.qF g.qF _ (.func (.func kf) fst lb) (hq.keep hS3.keep) (HF.out.keep hS3.keep)
    have HS3 := Lib.hid hS3
    have hout := fun xss h => allR_out (b := false) (xss := xss) HRC.out (setsS_perm g) h
    rw [List.length_map] at hout
    have HOUT := Lib.hid hout
    have HSW := Lib.hid hs2
    generalize smallF g.qF g.rpeople.length (2 ^ g.rpeople.length) = SL at *
    clear hq hfq hS3 hs2 hout
    go_wp2_with fail
    refine hA.mono ?_
    clear hA
    rintro e w4 ⟨v4, us, xss, rfl, hr4, ho4, hrw4, hs4⟩
    obtain ⟨hx, hn⟩ := HOUT.out xss hr4
    subst hx
    rw [hn]
    obtain ⟨a4, n4, c4, rfl, -⟩ := ho4.slice
    have HO4 := Lib.hid ho4
    have HR4 := Lib.hid hrw4
    generalize tooMany SL.length = tm at *
    clear hr4 ho4 hrw4 hn
    go_wp2_with fail
    go_ret2
    have hz : w.heap.size ≤ (w2.alloc (.cells #[.slice aq nq cq, .int .u64 uq, .func (.func kf) fst lb] 87)).heap.size := Nat.le_trans (hS1.trans HSW.out).size HS3.out.size
    exact ⟨_, us, rfl, own_lower HO4.out hz, HR4.out.lower hz, hS1.trans (HSW.out.trans (HS3.out.trans hs4))⟩
  · have hb : (rc != 0) = true := by simpa using hc
    have HC := Lib.hid hc
    clear hc
    rcases hfq with rfl | ⟨kq, fstq, lbq, rfl⟩
    · go_wp2_with fail
      go_ret2
      exact ⟨.slice none 0 0, [], by rw [HE.out, if_pos HC.out]; rfl, World.ownsRow_nil _ _ _ _, by rw [HO.out HC.out]; exact Rows.nil _ _, hS1.trans (hs2.alloc _)⟩
    · go_wp2_with fail
      go_ret2
      exact ⟨.slice none 0 0, [], by rw [HE.out, if_pos HC.out]; rfl, World.ownsRow_nil _ _ _ _, by rw [HO.out HC.out]; exact Rows.nil _ _, hS1.trans (hs2.alloc _)⟩
set_option maxHeartbeats 4000000 in
theorem Blocks_own (w : World) (g : Gt) (val : Value) (hg : IsG w g val) :
    Calls Try.prog 38 #[val] w fun e w' => ∃ v' us, e = .returned (.tuple #[v', .int .i64 (g.sErr true)]) ∧ Own w' w.heap.size 25 v' us ∧ Rows w' w.heap.size us (g.sOut true) ∧ Same w w' := by
  obtain ⟨vg, rfl, hat⟩ := hg
  obtain ⟨a, n, c, rfl⟩ := hat.form
  obtain ⟨W1, hW1⟩ : ∃ W1, W1 = w.alloc (.cells #[.int .i64 g.p, .int .i64 g.n, .slice a n c] 24) := ⟨_, rfl⟩
  have hS1 : Same w W1 := by rw [hW1]; exact (Same.refl w).alloc _
  have H1 := ask_spec W1 g _ (⟨_, rfl, hat.keep hS1.keep⟩ : IsG W1 g (.agg #[.int .i64 g.p, .int .i64 g.n, .slice a n c]))
  have hE : g.sErr true = if g.rerr ≠ 0 then g.rerr else tooMany (g.setsK true).length := rfl
  have hO : g.rerr ≠ 0 → g.sOut true = [] := fun h => by rw [Gt.sOut, hE, if_pos h, if_neg h]
  have HE := Lib.hid hE
  have HO := Lib.hid hO
  have HW1 := Lib.hid hW1
  rw [hW1] at H1
  clear hW1 hat hE hO
  generalize hrc : g.rerr = rc at *
  have HRC := Lib.hid hrc
  clear hrc
  go_enter Try.func38, Try.ntmps38
  go_wp2_with fail
  refine H1.mono ?_
  clear H1
  rintro e w2 ⟨q, rfl, ⟨aq, nq, cq, uq, fq, rfl, hfq⟩, hq, hs2⟩
  rw [← HW1.out] at hs2
  have HQ := Lib.hid hq
  clear hq
  by_cases hc : rc = 0
  · subst hc
    have hq := HQ.out rfl
    obtain ⟨kf, fst, lb, rfl⟩ := hq.fine.form
    have hS3 : Same w2 (w2.alloc (.cells #[.slice aq nq cq, .int .u64 uq, .func (.func kf) fst lb] 87)) := (Same.refl w2).alloc _
    have hA := allq_spec _ g.rpeople g.qF (fun s => !g.qF (2 ^ g.rpeople.length - 1 - s)) _ _ (hq.keep hS3.keep) ((hq.keep hS3.keep).fineB)
    have HS3 := Lib.hid hS3
    have hout := fun xss h => allR_out (b := true) (xss := xss) HRC.out (setsB_perm g) h
    rw [List.length_map] at hout
    have HOUT := Lib.hid hout
    have HSW := Lib.hid hs2
    generalize smallF (fun s => !g.qF (2 ^ g.rpeople.length - 1 - s)) g.rpeople.length (2 ^ g.rpeople.length) = SL at *
    clear hq hfq hS3 hs2 hout
    go_wp2_with fail
    refine hA.mono ?_
    clear hA
    rintro e w4 ⟨v4, us, xss, rfl, hr4, ho4, hrw4, hs4⟩
    obtain ⟨hx, hn⟩ := HOUT.out xss hr4
    subst hx
    rw [hn]
    obtain ⟨a4, n4, c4, rfl, -⟩ := ho4.slice
    have HO4 := Lib.hid ho4
    have HR4 := Lib.hid hrw4
    generalize tooMany SL.length = tm at *
    clear hr4 ho4 hrw4 hn
    go_wp2_with fail
    go_ret2
    have hz : w.heap.size ≤ (w2.alloc (.cells #[.slice aq nq cq, .int .u64 uq, .func (.func kf) fst lb] 87)).heap.size := Nat.le_trans (hS1.trans HSW.out).size HS3.out.size
    exact ⟨_, us, rfl, own_lower HO4.out hz, HR4.out.lower hz, hS1.trans (HSW.out.trans (HS3.out.trans hs4))⟩
  · have hb : (rc != 0) = true := by simpa using hc
    have HC := Lib.hid hc
    clear hc
    rcases hfq with rfl | ⟨kq, fstq, lbq, rfl⟩
    · go_wp2_with fail
      go_ret2
      exact ⟨.slice none 0 0, [], by rw [HE.out, if_pos HC.out]; rfl, World.ownsRow_nil _ _ _ _, by rw [HO.out HC.out]; exact Rows.nil _ _, hS1.trans (hs2.alloc _)⟩
    · go_wp2_with fail
      go_ret2
      exact ⟨.slice none 0 0, [], by rw [HE.out, if_pos HC.out]; rfl, World.ownsRow_nil _ _ _ _, by rw [HO.out HC.out]; exact Rows.nil _ _, hS1.trans (hs2.alloc _)⟩
end Go.Proofs.Ytmnpbopkhpbhiaa
