/- formulas.Holds. -/
import Derived.Test.YtmnpbopkhpbhiaaHolds
set_option linter.unusedVariables false
set_option linter.unusedSimpArgs false
namespace Go.Proofs.Ytmnpbopkhpbhiaa
open Go.RowKit
/-- Strictly increasing from behind last on, below 64. -/
def peopleFrom (last : Int) : List Int → Bool
  | [] => true
  | n :: ns => decide (last < n) && (decide (n < 64) && peopleFrom n ns)
/-- What Holds answers. -/
def Gt.Holds (g : Gt) (who : List Int) : Bool × Int := if g.check ≠ 0 then (false, g.check) else if peopleFrom (-1) who then (g.holds who, 0) else (false, 1)
theorem check_right {g : Gt} (h : g.check = 0) : g.right = true := by
  unfold Gt.check at h
  split at h
  · omega
  · split at h
    · assumption
    · omega
def lastOf (last : Int) : List Int → Int
  | [] => last
  | n :: ns => lastOf n ns
theorem lastOf_snoc (last : Int) (l : List Int) (x : Int) : lastOf last (l ++ [x]) = x := by
  induction l generalizing last with
  | nil => rfl
  | cons y l ih => simp only [List.cons_append, lastOf, ih]
theorem peopleFrom_append (last : Int) (l r : List Int) : peopleFrom last (l ++ r) = (peopleFrom last l && peopleFrom (lastOf last l) r) := by
  induction l generalizing last with
  | nil => simp [peopleFrom, lastOf]
  | cons y l ih => simp only [List.cons_append, peopleFrom, lastOf, ih, Bool.and_assoc]
theorem peopleFrom_le (last : Int) (l : List Int) (h : peopleFrom last l = true) : (∀ x ∈ l, last < x ∧ x ≤ lastOf last l ∧ x < 64) ∧ last ≤ lastOf last l := by
  induction l generalizing last with
  | nil => simp [lastOf]
  | cons y l ih =>
    simp only [peopleFrom, Bool.and_eq_true, decide_eq_true_eq] at h
    obtain ⟨h1, h2, h3⟩ := h
    obtain ⟨h4, h5⟩ := ih y h3
    refine ⟨fun x hx => ?_, by simp only [lastOf]; omega⟩
    simp only [lastOf]
    rcases List.mem_cons.1 hx with rfl | hx
    · exact ⟨h1, h5, h2⟩
    · have := h4 x hx
      omega
set_option maxHeartbeats 2000000 in
set_option maxRecDepth 100000 in
theorem Holds_spec (w : World) (g : Gt) (val v : Value) (who : List Int) (hg : IsG w g val) (hv : Ints w v who) :
    Calls Try.prog 27 #[val, v] w fun e w' => e = .returned (.tuple #[.bool (g.Holds who).1, .int .i64 (g.Holds who).2]) ∧ Same w w' := by
  have H1 := fun W (h : Same w W) => check_spec W g val (hg.keep h.keep)
  have H2 := fun W m (h : Keep w W) (hr : g.right = true) (hm : MapSet W m who (.int .i64 1)) => holds_all (SizeOf.sizeOf g + 1) g W W val m who (by omega) (hg.keep h) (Keep.refl W) hr hm
  obtain ⟨u, rfl, hu⟩ := hg
  obtain ⟨a, cap, rfl, hcap, hmax, hcell⟩ := hv
  have hz : Same w (w.alloc (.cells #[.int .i64 g.p, .int .i64 g.n, u] 24)) := (Same.refl w).alloc _
  have H1 := H1 _ hz
  have hmm := @run_makeMap Try.prog
  go_enter Try.func27, Try.ntmps27
  go_wp2_with fail
  refine H1.mono ?_
  clear H1
  rintro e w1 ⟨rfl, h1⟩
  have hS1 := hz.trans h1
  obtain ⟨hc, hf⟩ := h1.cells
  by_cases hck : g.check = 0
  · have hright := check_right hck
    have HR := Lib.hid hright
    have HC := Lib.hid hck
    rw [hck]
    clear hright hck
    go_wp2_with fail
    go_loopw [8, 19] (fun last i wr => ∃ k : Nat, k ≤ who.length ∧ i = .int .i64 k ∧ last = .int .i64 (lastOf (-1) (who.take k)) ∧ Hid (peopleFrom (-1) (who.take k) = true) ∧ MapSet wr w1.heap.size (who.take k) (.int .i64 1) ∧ Same w1 wr) (fun _ i _ => who.length - (intOf i).toNat)
    case atStart => exact ⟨0, Nat.zero_le _, rfl, rfl, rfl, MapSet.new _ _, (Same.refl w1).alloc _⟩
    case round =>
      obtain ⟨k, hk, rfl, rfl, hpf, hms, hsw⟩ := hrel
      by_cases hlt : k < who.length
      · obtain ⟨ad, x, rfl, hx, hrx⟩ := hcell k hlt
        unfold RInt at hrx
        subst hrx
        have hxr := ((hS1.trans hsw).keep).cell hx
        obtain ⟨hall, hle⟩ := peopleFrom_le _ _ hpf.out
        have htk : who.take (k + 1) = who.take k ++ [who[k]] := by simp
        have hdr : who.drop k = who[k] :: who.drop (k + 1) := (List.getElem_cons_drop hlt).symm
        have hpn : peopleFrom (-1) who = (decide (lastOf (-1) (who.take k) < who[k]) && (decide (who[k] < 64) && peopleFrom who[k] (who.drop (k + 1)))) := by
          conv => lhs; rw [← List.take_append_drop k who, peopleFrom_append, hpf.out, hdr]
          simp [peopleFrom]
        have HPN := Lib.hid hpn
        have HTK := Lib.hid htk
        have HALL := Lib.hid hall
        clear hall hpn htk hdr hx
        generalize hL : lastOf (-1) (who.take k) = L at *
        have HL := Lib.hid hL
        clear hL
        by_cases hbad : who[k] ≤ L ∨ 64 ≤ who[k]
        · have hpb : peopleFrom (-1) who = false := by
            rw [HPN.out]
            rcases hbad with h | h
            · simp; omega
            · simp; omega
          have hres : g.Holds who = (false, 1) := by rw [Gt.Holds, if_neg (by simpa using HC.out), if_neg (by simp [hpb])]
          have HRES := Lib.hid hres
          clear hres hpb
          rcases hbad with h | h
          all_goals go_wp2_with fail
          all_goals try go_ret2
          all_goals try exact ⟨by rw [HRES.out]; rfl, hS1.trans hsw⟩
          all_goals exfalso
          all_goals omega
        · have h1 : L < who[k] := by omega
          have h2 : who[k] < 64 := by omega
          clear hbad
          obtain ⟨w', hrun, hset, hgr⟩ := run_mapUpdate_set (P := Try.prog) Try.underlying56 Try.underlying3 hms who[k]
          have hnot : who[k] ∉ who.take k := fun hm => by
            have := HALL.out _ hm
            omega
          have hadd : addKey (who.take k) who[k] = who.take (k + 1) := by rw [addKey, if_neg hnot, HTK.out]
          rw [hadd] at hset
          have hlast : lastOf (-1) (who.take (k + 1)) = who[k] := by rw [HTK.out, lastOf_snoc]
          have hp' : peopleFrom (-1) (who.take (k + 1)) = true := by
            rw [HTK.out, peopleFrom_append, hpf.out, HL.out]
            simp [peopleFrom, h1, h2]
          have hsw' : Same w1 w' := hsw.grown hgr (by intro q e; injection e with e; omega)
          have HLA := Lib.hid hlast
          have HP := Lib.hid hp'
          clear hlast hp' hadd hnot
          go_wp2_with fail
          go_roundw
          case rel => exact ⟨k + 1, by omega, by go_num, by rw [HLA.out], HP, hset, hsw'⟩
          case measure => simp [intOf]; omega
      · obtain rfl : k = who.length := by omega
        rw [List.take_length] at hpf hms
        have hS2 : Same w wr := hS1.trans hsw
        obtain ⟨hc2, hf2⟩ := hsw.cells
        have hz1 : w.heap.size < w1.heap.size := by have := h1.size; simp at this; omega
        have H3 := H2 wr w1.heap.size hS2.keep HR.out hms
        have hres : g.Holds who = (g.holds who, 0) := by rw [Gt.Holds, if_neg (by simpa using HC.out), if_pos hpf.out]
        have HRES := Lib.hid hres
        clear hres H2
        go_wp2_with fail
        refine H3.mono ?_
        clear H3
        rintro e w3 ⟨rfl, h3⟩
        go_wp2_with fail
        go_ret2
        exact ⟨by rw [HRES.out]; rfl, hS2.trans h3⟩
  · have hb : (g.check != 0) = true := by simpa using hck
    have hr : g.Holds who = (false, g.check) := by rw [Gt.Holds, if_pos hck]
    have HRR := Lib.hid hr
    have HC := Lib.hid hck
    clear hr hck
    go_wp2_with fail
    go_ret2
    exact ⟨by rw [HRR.out]; rfl, hS1⟩
end Go.Proofs.Ytmnpbopkhpbhiaa
