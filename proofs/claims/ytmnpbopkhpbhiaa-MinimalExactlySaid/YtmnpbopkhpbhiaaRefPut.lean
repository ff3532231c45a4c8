/- signatoryref24.put. -/
import Derived.Test.YtmnpbopkhpbhiaaAppend
set_option linter.unusedVariables false
set_option linter.unusedSimpArgs false
namespace Go.Proofs.Ytmnpbopkhpbhiaa
open Go.RowKit
set_option maxRecDepth 100000
attribute [local go_sem ↓] Go.wp_at_zero Go.wp_at_succ
/-- n put into its place in l, unless it is there. -/
def put : List Int → Int → List Int
  | [], n => [n]
  | x :: xs, n => if x < n then x :: put xs n else if x = n then x :: xs else n :: x :: xs
theorem put_at (n : Int) : ∀ (l : List Int) (k : Nat), (∀ x ∈ l.take k, x < n) → k ≤ l.length → (∀ h : k < l.length, n ≤ l[k]) → put l n = if l[k]? = some n then l else l.take k ++ (n :: l.drop k)
  | [], k, _, hk, _ => by
    obtain rfl : k = 0 := by simpa using hk
    simp [put]
  | x :: xs, 0, _, _, h => by
    have hx := h (by simp)
    simp only [List.getElem_cons_zero] at hx
    simp only [put]
    rw [if_neg (by omega)]
    by_cases e : x = n
    · simp [e]
    · simp [e]
  | x :: xs, k + 1, h, hk, h2 => by
    have hx : x < n := h x (by simp)
    have ih := put_at n xs k (fun y hy => h y (by simp [hy])) (by simpa using hk) (fun hh => by have := h2 (by simpa using hh); simpa using this)
    simp only [put]
    rw [if_pos hx, ih]
    simp only [List.getElem?_cons_succ, List.take_succ_cons, List.drop_succ_cons, List.cons_append]
    split <;> rfl
set_option maxHeartbeats 4000000 in
theorem put_spec (w : World) (v : Value) (l : List Int) (n : Int) (h : Ints w v l) (hlen : l.length ≤ 1000000) :
    Calls Try.prog 111 #[v, .int .i64 n] w fun e w' => ∃ v', e = .returned v' ∧ Ints w' v' (put l n) ∧ Same w w' := by
  have HI := Lib.hid h
  obtain ⟨a, cap, rfl, hcap, hmax, hc⟩ := h
  have HC := Lib.hid hc
  clear hc
  go_enter Try.func111, Try.ntmps111
  go_wp2_with fail
  go_loop [5] (fun i => ∃ k : Nat, k ≤ l.length ∧ i = .int .i64 k ∧ Hid (∀ x ∈ l.take k, x < n)) (fun i => l.length - (intOf i).toNat)
  case atStart => exact ⟨0, Nat.zero_le _, rfl, Lib.hid (by simp)⟩
  case round =>
    obtain ⟨k, hk, rfl, hb⟩ := hrel
    by_cases hlt : k < l.length
    · obtain ⟨ad, u, rfl, hu, hr⟩ := HC.out k hlt
      unfold RInt at hr
      subst hr
      by_cases hx : l[k] < n
      · have hnx : ∀ x ∈ l.take (k + 1), x < n := by
          intro x hx'
          rw [List.take_succ_eq_append_getElem hlt, List.mem_append, List.mem_singleton] at hx'
          rcases hx' with h | rfl
          · exact hb.out x h
          · exact hx
        have HNX := Lib.hid hnx
        clear hnx
        generalize l[k] = xk at *
        go_wp2_with fail
        go_round
        case rel => exact ⟨k + 1, by omega, by go_num, HNX⟩
        case measure => simp [intOf]; omega
      · have hp := put_at n l k hb.out hk (fun _ => by omega)
        by_cases he : l[k] = n
        · rw [if_pos (by rw [List.getElem?_eq_getElem hlt, he])] at hp
          have HP := Lib.hid hp
          have hbq : (l[k] == n) = true := by simpa using he
          clear hp he
          generalize l[k] = xk at *
          go_wp2_with fail
          go_ret
          exact ⟨_, rfl, by rw [HP.out]; exact HI.out, Same.refl w⟩
        · rw [if_neg (by rw [List.getElem?_eq_getElem hlt]; simpa using he)] at hp
          have HP := Lib.hid hp
          have hbq : (l[k] == n) = false := by simpa using he
          clear hp he
          generalize l[k] = xk at *
          go_wp2_with fail
          have z0 : (0 : Int) ≤ (k : Int) := by omega
          have z1 : (k : Int) ≤ (l.length : Int) := by omega
          have z2 : (l.length : Int) ≤ (cap : Int) := by omega
          have z3 : (k : Int) ≤ (cap : Int) := by omega
          have z4 : ¬ cap = k := by omega
          have IT := HI.out.take k (by omega)
          have ID := HI.out.drop k (by omega)
          have HT := Lib.hid IT.cells
          have HD := Lib.hid ID.cells
          clear IT ID
          go_region_held3 (fun W => Same w W) (((try go_split_ands); repeat (first | assumption | exact Same.refl _ | apply Same.drew | apply Same.alloc)))
            (first
              | ((refine step_append_src (base := w.heap.size) (by rfl) (.tmp 33) (.tmp 36) 25 (by rfl) Try.underlying25 info_int (by rfl) (own_zero (b := w.heap.size) (by exact h_old (h_new' _ (by first | rfl | (simp; done))) _) (Nat.le_refl _)) (by rfl) (HT.out.keep (Same.keep (by assumption))) (by rfl) (one_ints _) (by (simp [intVs_len]; omega)) (by decide) (Same.size (by assumption)) ?_; intro a7 n7 c7 w1 hO1 hG1 hB1 hW1; have hS1 : Same w w1 := Same.grown (by assumption) hG1 hB1; have hq := h_grown hG1 (b := w.heap.size + 1) (o := .cells #[.int .i64 n] 3) (by exact h_new' _ (by first | rfl | (simp; done))) (by (simp [Value.ownBlock]; done))))
              | ((refine step_append_src (base := w.heap.size) (by rfl) (.tmp 33) (.tmp 36) 25 (by rfl) Try.underlying25 info_int (by rfl) (own_zero (b := w.heap.size + 1) (by exact h_new' _ (by first | rfl | (simp; done))) (Nat.le_succ _)) (by rfl) (HT.out.keep (Same.keep (by assumption))) (by rfl) (one_ints _) (by (simp [intVs_len]; omega)) (by decide) (Same.size (by assumption)) ?_; intro a7 n7 c7 w1 hO1 hG1 hB1 hW1; have hS1 : Same w w1 := Same.grown (by assumption) hG1 hB1; have hq := h_grown hG1 (b := w.heap.size) (o := .cells #[.int .i64 n] 3) (by exact h_old (h_new' _ (by first | rfl | (simp; done))) _) (by (simp [Value.ownBlock]; done))))
              | ((refine step_append_src (base := w.heap.size) (by rfl) (.tmp 33) (.tmp 36) 25 (by rfl) Try.underlying25 info_int (by rfl) (own_zero (b := w.heap.size) (by exact h_new' _ (by first | rfl | (simp; done))) (Nat.le_refl _)) (by rfl) (HT.out.keep (Same.keep (by assumption))) (by rfl) (one_ints _) (by (simp [intVs_len]; omega)) (by decide) (Same.size (by assumption)) ?_; intro a7 n7 c7 w1 hO1 hG1 hB1 hW1; have hS1 : Same w w1 := Same.grown (by assumption) hG1 hB1))
              | ((refine step_append_src (base := w.heap.size) (by rfl) (.tmp 37) (.tmp 39) 25 (by rfl) Try.underlying25 info_int (by rfl) (own_keep (Same.keep (by repeat (first | exact Same.refl _ | apply Same.drew | apply Same.alloc))) hO1) (by rfl) (cells_one (by exact hq)) (by rfl) (one_ints [n]) (by (simp [intVs_len]; omega)) (by decide) (Same.size (by assumption)) ?_; intro a8 n8 c8 w2 hO2 hG2 hB2 hW2; have hS2 : Same w w2 := Same.grown (by assumption) hG2 hB2))
              | ((refine step_append_src (base := w.heap.size) (by rfl) (.tmp 37) (.tmp 39) 25 (by rfl) Try.underlying25 info_int (by rfl) (own_keep (Same.keep (by repeat (first | exact Same.refl _ | apply Same.drew | apply Same.alloc))) hO1) (by rfl) (cells_one (by exact h_new' _ (by first | rfl | (simp; done)))) (by rfl) (one_ints [n]) (by (simp [intVs_len]; omega)) (by decide) (Same.size (by assumption)) ?_; intro a8 n8 c8 w2 hO2 hG2 hB2 hW2; have hS2 : Same w w2 := Same.grown (by assumption) hG2 hB2))
              | ((refine step_append_src (base := w.heap.size) (by rfl) (.tmp 40) (.tmp 43) 25 (by rfl) Try.underlying25 info_int (by rfl) (own_keep (Same.keep (by repeat (first | exact Same.refl _ | apply Same.drew | apply Same.alloc))) hO2) (by rfl) (HD.out.keep (Same.keep (by assumption))) (by rfl) (one_ints _) (by (simp [intVs_len]; omega)) (by decide) (Same.size (by assumption)) ?_; intro a9 n9 c9 w3 hO3 hG3 hB3 hW3; have hS3 : Same w w3 := Same.grown (by assumption) hG3 hB3))
              | (fail))
          all_goals
            go_wp2_with fail
            go_ret
            exact ⟨_, rfl, by rw [HP.out]; exact Ints.of_cells (by have h := Own.cells hO3; simpa [intVs] using h) (by simp; omega), by assumption⟩
    · obtain rfl : k = l.length := by omega
      have hp := put_at n l l.length hb.out (Nat.le_refl _) (fun h => by omega)
      rw [if_neg (by rw [List.getElem?_eq_none (Nat.le_refl _)]; simp)] at hp
      have HP := Lib.hid hp
      clear hp hb
      have z0 : (0 : Int) ≤ (l.length : Int) := by omega
      have z2 : (l.length : Int) ≤ (cap : Int) := by omega
      have IT := HI.out.take l.length (Nat.le_refl _)
      have HT := Lib.hid IT.cells
      have HD := Lib.hid (fun (X : Option Addr) (c : Nat) (W : World) => (⟨X, c, by simp [intVs], by simp [intVs], fun j hj => by simp [intVs] at hj⟩ : Cells W (.slice X 0 c) (intVs (l.drop l.length))))
      clear IT
      have HA : (a = none ∧ True) ∨ (∃ ad, a = some ad ∧ cap = l.length) ∨ (∃ ad, a = some ad ∧ ¬ cap = l.length) := by
        cases a with
        | none => exact .inl ⟨rfl, trivial⟩
        | some ad => exact .inr (by by_cases h : cap = l.length
                                    · exact .inl ⟨ad, rfl, h⟩
                                    · exact .inr ⟨ad, rfl, h⟩)
      rcases HA with ⟨rfl, _⟩ | ⟨ad, rfl, rfl⟩ | ⟨ad, rfl, hck⟩
      all_goals
        go_wp2_with fail
        go_region_held3 (fun W => Same w W) (((try go_split_ands); repeat (first | assumption | exact Same.refl _ | apply Same.drew | apply Same.alloc)))
          (first
            | ((refine step_append_src (base := w.heap.size) (by rfl) (.tmp 33) (.tmp 36) 25 (by rfl) Try.underlying25 info_int (by rfl) (own_zero (b := w.heap.size) (by exact h_old (h_new' _ (by first | rfl | (simp; done))) _) (Nat.le_refl _)) (by rfl) (HT.out.keep (Same.keep (by assumption))) (by rfl) (one_ints _) (by (simp [intVs_len]; omega)) (by decide) (Same.size (by assumption)) ?_; intro a7 n7 c7 w1 hO1 hG1 hB1 hW1; have hS1 : Same w w1 := Same.grown (by assumption) hG1 hB1; have hq := h_grown hG1 (b := w.heap.size + 1) (o := .cells #[.int .i64 n] 3) (by exact h_new' _ (by first | rfl | (simp; done))) (by (simp [Value.ownBlock]; done))))
            | ((refine step_append_src (base := w.heap.size) (by rfl) (.tmp 33) (.tmp 36) 25 (by rfl) Try.underlying25 info_int (by rfl) (own_zero (b := w.heap.size + 1) (by exact h_new' _ (by first | rfl | (simp; done))) (Nat.le_succ _)) (by rfl) (HT.out.keep (Same.keep (by assumption))) (by rfl) (one_ints _) (by (simp [intVs_len]; omega)) (by decide) (Same.size (by assumption)) ?_; intro a7 n7 c7 w1 hO1 hG1 hB1 hW1; have hS1 : Same w w1 := Same.grown (by assumption) hG1 hB1; have hq := h_grown hG1 (b := w.heap.size) (o := .cells #[.int .i64 n] 3) (by exact h_old (h_new' _ (by first | rfl | (simp; done))) _) (by (simp [Value.ownBlock]; done))))
            | ((refine step_append_src (base := w.heap.size) (by rfl) (.tmp 33) (.tmp 36) 25 (by rfl) Try.underlying25 info_int (by rfl) (own_zero (b := w.heap.size) (by exact h_new' _ (by first | rfl | (simp; done))) (Nat.le_refl _)) (by rfl) (HT.out.keep (Same.keep (by assumption))) (by rfl) (one_ints _) (by (simp [intVs_len]; omega)) (by decide) (Same.size (by assumption)) ?_; intro a7 n7 c7 w1 hO1 hG1 hB1 hW1; have hS1 : Same w w1 := Same.grown (by assumption) hG1 hB1))
            | ((refine step_append_src (base := w.heap.size) (by rfl) (.tmp 37) (.tmp 39) 25 (by rfl) Try.underlying25 info_int (by rfl) (own_keep (Same.keep (by repeat (first | exact Same.refl _ | apply Same.drew | apply Same.alloc))) hO1) (by rfl) (cells_one (by exact hq)) (by rfl) (one_ints [n]) (by (simp [intVs_len]; omega)) (by decide) (Same.size (by assumption)) ?_; intro a8 n8 c8 w2 hO2 hG2 hB2 hW2; have hS2 : Same w w2 := Same.grown (by assumption) hG2 hB2))
            | ((refine step_append_src (base := w.heap.size) (by rfl) (.tmp 37) (.tmp 39) 25 (by rfl) Try.underlying25 info_int (by rfl) (own_keep (Same.keep (by repeat (first | exact Same.refl _ | apply Same.drew | apply Same.alloc))) hO1) (by rfl) (cells_one (by exact h_new' _ (by first | rfl | (simp; done)))) (by rfl) (one_ints [n]) (by (simp [intVs_len]; omega)) (by decide) (Same.size (by assumption)) ?_; intro a8 n8 c8 w2 hO2 hG2 hB2 hW2; have hS2 : Same w w2 := Same.grown (by assumption) hG2 hB2))
            | ((refine step_append_src (base := w.heap.size) (by rfl) (.tmp 40) (.tmp 43) 25 (by rfl) Try.underlying25 info_int (by rfl) (own_keep (Same.keep (by repeat (first | exact Same.refl _ | apply Same.drew | apply Same.alloc))) hO2) (by rfl) (HD.out _ _ _) (by rfl) (one_ints _) (by (simp [intVs_len]; omega)) (by decide) (Same.size (by assumption)) ?_; intro a9 n9 c9 w3 hO3 hG3 hB3 hW3; have hS3 : Same w w3 := Same.grown (by assumption) hG3 hB3))
            | (fail))
        all_goals
          go_wp2_with fail
          go_ret
          exact ⟨_, rfl, by rw [HP.out]; exact Ints.of_cells (by have h := Own.cells hO3; simpa [intVs] using h) (by simp; omega), by assumption⟩
end Go.Proofs.Ytmnpbopkhpbhiaa
