/- living.check. -/
import Derived.Test.YtmnpbopkhpbhiaaCheck
import Derived.Test.YtmnpbopkhpbhiaaSortI
import Derived.Test.YtmnpbopkhpbhiaaWalkp
set_option linter.unusedVariables false
set_option linter.unusedSimpArgs false
namespace Go.Proofs.Ytmnpbopkhpbhiaa
open Go.RowKit
set_option maxRecDepth 100000
/-- The people of a formula. -/
def Gt.people (g : Gt) : List Int := sorted (addKeys [] g.leafs)
/-- What check of living answers. -/
def Gt.lcheck (g : Gt) (alive : List Int) : Int := if g.check ≠ 0 then g.check else if 12 < (addKeys [] g.leafs).length then 2 else if peopleFrom (-1) alive then 0 else 1
set_option maxHeartbeats 4000000 in
theorem lcheck_spec (w : World) (g : Gt) (gv va : Value) (alive : List Int) (hg : IsG w g gv) (ha : Ints w va alive) :
    Calls Try.prog 57 #[gv, va] w fun e w' => ∃ p n : Int, ∃ a b a' b' : Nat, ∃ o o', e = .returned (.tuple #[.agg #[.int .i64 p, .int .i64 n, .slice o a b, .slice o' a' b'], .int .i64 (g.lcheck alive)]) ∧
      (g.lcheck alive = 0 → IsStr w' g g.people (.agg #[.int .i64 p, .int .i64 n, .slice o a b, .slice o' a' b'])) ∧ Same w w' := by
  obtain ⟨v, rfl, hv⟩ := hg
  obtain ⟨ag, ng, cg, rfl⟩ : ∃ a n c, v = .slice a n c := by obtain ⟨a, c, e, _⟩ := hv.gs; exact ⟨a, _, c, e⟩
  obtain ⟨al, cl, rfl, hcap, hmax, hcell⟩ := ha
  obtain ⟨W1, hW1⟩ : ∃ W1, W1 = (w.alloc (.cells #[.int .i64 g.p, .int .i64 g.n, .slice ag ng cg] 24)).alloc (.cells #[.int .i64 0, .int .i64 0, .slice none 0 0, .slice none 0 0] 69) := ⟨_, rfl⟩
  have hS1 : Same w W1 := by rw [hW1]; exact ((Same.refl w).alloc _).alloc _
  have H1 := check_spec W1 g _ ⟨_, rfl, hv.keep hS1.keep⟩
  have HCELL := Lib.hid hcell
  have HV := Lib.hid hv
  have HW1 := Lib.hid hW1
  rw [hW1] at H1
  clear hcell hv hW1
  have hlc : g.lcheck alive = if g.check ≠ 0 then g.check else if 12 < (addKeys [] g.leafs).length then 2 else if peopleFrom (-1) alive then 0 else 1 := rfl
  have HLC := Lib.hid hlc
  clear hlc
  generalize hck : g.check = ck at H1
  have HCK := Lib.hid hck
  clear hck
  have rg1 : Rec W1 w.heap.size 24 #[.int .i64 g.p, .int .i64 g.n, .slice ag ng cg] := by rw [HW1.out]; exact Rec.same ((Same.refl _).alloc _) (Rec.new _ _ _)
  have rs1 : Rec W1 (w.heap.size + 1) 69 #[.int .i64 0, .int .i64 0, .slice none 0 0, .slice none 0 0] := by
    rw [HW1.out]; have := Rec.new (w.alloc (.cells #[.int .i64 g.p, .int .i64 g.n, .slice ag ng cg] 24)) 69 #[.int .i64 0, .int .i64 0, .slice none 0 0, .slice none 0 0]
    rw [World.size_alloc] at this; exact this
  go_enter Try.func57, Try.ntmps57
  go_wp2_with fail
  refine H1.mono ?_
  clear H1
  rintro e W2 ⟨rfl, hs2⟩
  rw [← HW1.out] at hs2
  have rg2 := Rec.same hs2 rg1
  have rs2 := Rec.same hs2 rs1
  have s0 := rs2.cell 0
  have s1 := rs2.cell 1
  have s2 := rs2.cell 2
  have s3 := rs2.cell 3
  have f0 := rs2.frozen 0
  have f1 := rs2.frozen 1
  have f2 := rs2.frozen 2
  have f3 := rs2.frozen 3
  have l0 := rs2.lt
  have g0 := rg2.cell 0
  have g1 := rg2.cell 1
  have g2 := rg2.cell 2
  have gl := rg2.lt
  simp at s0 s1 s2 s3 g0 g1 g2
  have hmm := @run_makeMap Try.prog
  by_cases hc0 : ck = 0
  · subst hc0
    have gl1 : w.heap.size < W2.heap.size + 1 := by omega
    have gl2 : w.heap.size < W2.heap.size + 1 + 1 := by omega
    have ll1 : w.heap.size + 1 < W2.heap.size + 1 := by omega
    have ll2 : w.heap.size + 1 < W2.heap.size + 1 + 1 := by omega
    obtain ⟨W3, hW3⟩ : ∃ W3, W3 = ((W2.alloc (.map #[] 0)).alloc (.cells #[.map (some W2.heap.size)] 110)).alloc (.cells #[.func (.func 97) #[] #[ptr (W2.heap.size + 1), ptr (W2.heap.size + 1 + 1)]] 111) := ⟨_, rfl⟩
    have hS3 : Same w W3 := by rw [hW3]; exact ((((hS1.trans hs2).alloc _).alloc _).alloc _)
    have hS23 : Same W2 W3 := by rw [hW3]; exact ((((Same.refl W2).alloc _).alloc _).alloc _)
    have bb3 : Boxed W3 (W2.heap.size + 1) 110 (.map (some W2.heap.size)) := by
      rw [hW3]; have := Boxed.new (W2.alloc (.map #[] 0)) 110 (.map (some W2.heap.size))
      rw [World.size_alloc] at this; exact this.alloc _
    have bw3 : Boxed W3 (W2.heap.size + 1 + 1) 111 (.func (.func 97) #[] #[ptr (W2.heap.size + 1), ptr (W2.heap.size + 1 + 1)]) := by
      rw [hW3]; have := Boxed.new ((W2.alloc (.map #[] 0)).alloc (.cells #[.map (some W2.heap.size)] 110)) 111 (.func (.func 97) #[] #[ptr (W2.heap.size + 1), ptr (W2.heap.size + 1 + 1)])
      rw [World.size_alloc, World.size_alloc] at this; exact this
    have hm3 : MapSet W3 W2.heap.size [] (.bool true) := by
      have h := MapSet.new W2 (.bool true)
      have h2 : Same (W2.alloc (.map #[] 0)) W3 := by rw [hW3]; exact ((Same.refl _).alloc _).alloc _
      exact h.keep h2.keep
    have hsz2 := (hS1.trans hs2).size
    have HWk := walkp_all (SizeOf.sizeOf g + 1) g w W3 (.agg #[.int .i64 g.p, .int .i64 g.n, .slice ag ng cg]) W2.heap.size (W2.heap.size + 1) (W2.heap.size + 1 + 1) [] (by omega) ⟨_, rfl, HV.out⟩ hS3.keep hsz2 (by omega) (by omega) bb3 bw3 hm3
    have rs3 := Rec.same hS23 rs2
    have rg3 := Rec.same hS23 rg2
    have hz3 : W3.heap.size = W2.heap.size + 3 := by rw [hW3]; simp
    have HZ3 := Lib.hid hz3
    have HW3 := Lib.hid hW3
    have e97 := enters_walkp
    rw [hW3] at HWk
    clear hW3 hz3
    go_wp2_with fail
    refine HWk.mono ?_
    clear HWk
    rintro e W4 ⟨rfl, hm4, hg4⟩
    rw [← HW3.out] at hg4
    have hS4 : Same w W4 := hS3.grown hg4 (fun k e => by injection e with e; omega)
    have rs4 := Rec.grown hg4 rs3 (by intro e; injection e with e; omega)
    have rg4 := Rec.grown hg4 rg3 (by intro e; injection e with e; omega)
    have bb4 := Boxed.grown bb3 hg4 (by omega)
    have c4 := bb4.cell
    have t0 := rs4.cell 0
    have t1 := rs4.cell 1
    have t2 := rs4.cell 2
    have t3 := rs4.cell 3
    have u0 := rs4.frozen 0
    have u1 := rs4.frozen 1
    have u2 := rs4.frozen 2
    have u3 := rs4.frozen 3
    have m0 := rg4.cell 0
    have m1 := rg4.cell 1
    have m2 := rg4.cell 2
    simp at t0 t1 t2 t3 m0 m1 m2
    generalize hks : addKeys [] g.leafs = ks at hm4
    have HKS := Lib.hid hks
    have HM4 := Lib.hid hm4
    clear hks hm4 s0 s1 s2 s3 f0 f1 f2 f3 l0 g0 g1 g2 gl gl1 gl2 ll1 ll2
    have HG4 := Lib.hid hg4
    clear hg4
    by_cases h12 : 12 < ks.length
    · have hfin : g.lcheck alive = 2 := by rw [HLC.out, if_neg (by rw [HCK.out]; simp), HKS.out, if_pos h12]
      have h12' : (12 : Int) < (ks.length : Int) := by omega
      have HF := Lib.hid hfin
      clear hfin h12
      go_wp2_with (at_len; refine wpList_len_set rfl _ _ rfl Try.underlying110 rfl HM4.out ?_)
      have r4 := rs4.set4 (.int .i64 0) (.int .i64 0) (.slice none 0 0) (.slice none 0 0)
      have e0 := r4.cell 0
      have e1 := r4.cell 1
      have e2 := r4.cell 2
      have e3 := r4.cell 3
      simp at e0 e1 e2 e3
      refine bodyPost_ret (v := .tuple #[.agg #[.int .i64 0, .int .i64 0, .slice none 0 0, .slice none 0 0], .int .i64 2]) (by simp [results, Try.results57, go_sem, e0, e1, e2, e3]) rfl ?_
      exact ⟨0, 0, 0, 0, 0, 0, none, none, by rw [HF.out], fun h => (by rw [HF.out] at h; cases h), hS4.set4 (by omega) _ _ _ _⟩
    · have h12' : (ks.length : Int) ≤ 12 := by omega
      have H12 := Lib.hid h12
      clear h12
      go_wp2_with (at_len; refine wpList_len_set rfl _ _ rfl Try.underlying110 rfl HM4.out ?_)
      go_loop [8, 29] (fun last i => ∃ k : Nat, k ≤ alive.length ∧ i = .int .i64 k ∧ last = .int .i64 (lastOf (-1) (alive.take k)) ∧ Hid (peopleFrom (-1) (alive.take k) = true)) (fun _ i => alive.length - (intOf i).toNat)
      case atStart => exact ⟨0, Nat.zero_le _, rfl, rfl, rfl⟩
      case round =>
        obtain ⟨k, hk, rfl, rfl, hpf⟩ := hrel
        by_cases hlt : k < alive.length
        · obtain ⟨ad, x, rfl, hx, hrx⟩ := HCELL.out k hlt
          unfold RInt at hrx
          subst hrx
          have hxx := hS4.keep.cell hx
          obtain ⟨hall, hle⟩ := peopleFrom_le _ _ hpf.out
          have htk : alive.take (k + 1) = alive.take k ++ [alive[k]] := by simp
          have hdr : alive.drop k = alive[k] :: alive.drop (k + 1) := (List.getElem_cons_drop hlt).symm
          have hpn : peopleFrom (-1) alive = (decide (lastOf (-1) (alive.take k) < alive[k]) && (decide (alive[k] < 64) && peopleFrom alive[k] (alive.drop (k + 1)))) := by
            conv => lhs; rw [← List.take_append_drop k alive, peopleFrom_append, hpf.out, hdr]
            simp [peopleFrom]
          have HPN := Lib.hid hpn
          have HTK := Lib.hid htk
          have HALL := Lib.hid hall
          clear hall hpn htk hdr hx
          generalize hL : lastOf (-1) (alive.take k) = L at *
          have HL := Lib.hid hL
          clear hL
          generalize hax : alive[k] = ax at *
          have HAX := Lib.hid hax
          clear hax
          by_cases hbad : ax ≤ L ∨ 64 ≤ ax
          · have hpb : peopleFrom (-1) alive = false := by
              rw [HPN.out]
              rcases hbad with h | h
              · simp; omega
              · simp; omega
            have hfin : g.lcheck alive = 1 := by rw [HLC.out, if_neg (by rw [HCK.out]; simp), HKS.out, if_neg H12.out, hpb]; simp
            have HF := Lib.hid hfin
            clear hfin hpb
            have r4 := Lib.hid (rs4.set4 (.int .i64 0) (.int .i64 0) (.slice none 0 0) (.slice none 0 0))
            have hend : ∀ tmps : Array Value, tmps[4]?.getD undef = .pointer (some ⟨w.heap.size + 1, 0, none⟩) → tmps[5]?.getD undef = .int .i64 1 → bodyPost Try.prog Try.f57 (fun e w' => ∃ p n : Int, ∃ a b a' b' : Nat, ∃ o o', e = .returned (.tuple #[.agg #[.int .i64 p, .int .i64 n, .slice o a b, .slice o' a' b'], .int .i64 (g.lcheck alive)]) ∧
      (g.lcheck alive = 0 → IsStr w' g g.people (.agg #[.int .i64 p, .int .i64 n, .slice o a b, .slice o' a' b'])) ∧ Same w w') .ret { tmps := tmps, defers := [] } ((((W4.setCell ⟨w.heap.size + 1, 0, none⟩ (.int .i64 0)).setCell ⟨w.heap.size + 1, 1, none⟩ (.int .i64 0)).setCell ⟨w.heap.size + 1, 2, none⟩ (.slice none 0 0)).setCell ⟨w.heap.size + 1, 3, none⟩ (.slice none 0 0)) := by
              intro tmps h4 h5
              have r4 := r4.out
              have e0 := r4.cell 0
              have e1 := r4.cell 1
              have e2 := r4.cell 2
              have e3 := r4.cell 3
              simp at e0 e1 e2 e3
              refine bodyPost_ret (v := .tuple #[.agg #[.int .i64 0, .int .i64 0, .slice none 0 0, .slice none 0 0], .int .i64 1]) (by simp [results, Try.results57, go_sem, h4, h5, e0, e1, e2, e3]) rfl ?_
              exact ⟨0, 0, 0, 0, 0, 0, none, none, by rw [HF.out], fun h => (by rw [HF.out] at h; cases h), hS4.set4 (by omega) _ _ _ _⟩
            have HE := Lib.hid hend
            clear hend
            rcases hbad with h | h
            all_goals go_wp2_with fail
            all_goals try exact HE.out _ rfl rfl
            all_goals exfalso
            all_goals omega
          · have h1 : L < ax := by omega
            have h2 : ax < 64 := by omega
            clear hbad
            have hlast : lastOf (-1) (alive.take (k + 1)) = ax := by rw [HTK.out, lastOf_snoc]
            have hp' : peopleFrom (-1) (alive.take (k + 1)) = true := by
              rw [HTK.out, peopleFrom_append, hpf.out, HL.out]
              simp [peopleFrom, h1, h2]
            have HLA := Lib.hid hlast
            have HP := Lib.hid hp'
            clear hlast hp'
            go_wp2_with fail
            go_round
            case rel => exact ⟨k + 1, by omega, by go_num, by rw [HLA.out], HP⟩
            case measure => simp [intOf]; omega
        · obtain rfl : k = alive.length := by omega
          rw [List.take_length] at hpf
          have hfin : g.lcheck alive = 0 := by rw [HLC.out, if_neg (by rw [HCK.out]; simp), HKS.out, if_neg H12.out, hpf.out]; simp
          have HF := Lib.hid hfin
          clear hfin hpf
          have hw2 : w.heap.size + 1 + 1 ≤ W2.heap.size := by have := hs2.size; rw [HW1.out] at this; simpa using this
          have hne : ¬ (W2.heap.size = w.heap.size) := by omega
          have hne2 : ¬ (w.heap.size = W2.heap.size) := fun e => hne e.symm
          have HNE := Lib.hid hne
          obtain ⟨W5, hW5⟩ : ∃ W5, W5 = (((W4.setCell ⟨w.heap.size + 1, 0, none⟩ (.int .i64 g.p)).setCell ⟨w.heap.size + 1, 1, none⟩ (.int .i64 g.n)).setCell ⟨w.heap.size + 1, 2, none⟩ (.slice ag ng cg)) := ⟨_, rfl⟩
          have rs5 : Rec W5 (w.heap.size + 1) 69 #[.int .i64 g.p, .int .i64 g.n, .slice ag ng cg, .slice none 0 0] := by
            rw [hW5]; simpa using ((rs4.set 0 (.int .i64 g.p)).set 1 (.int .i64 g.n)).set 2 (.slice ag ng cg)
          have hS5 : Same w W5 := by rw [hW5]; exact ((hS4.setCell (p := ⟨w.heap.size + 1, 0, none⟩) (Nat.le_succ _) _).setCell (p := ⟨w.heap.size + 1, 1, none⟩) (Nat.le_succ _) _).setCell (p := ⟨w.heap.size + 1, 2, none⟩) (Nat.le_succ _) _
          have hm5 : MapSet W5 W2.heap.size ks (.bool true) := by
            refine ⟨HM4.out.1, ?_⟩
            have h := HM4.out.2
            rw [hW5, Below.heap_setCell _ _ _ _ (by simp; omega), Below.heap_setCell _ _ _ _ (by simp; omega), Below.heap_setCell _ _ _ _ (by simp; omega)]
            exact h
          have hrange := run_range_set (P := Try.prog) Try.underlying110 hm5
          have HM5 := Lib.hid hm5
          have HS5 := Lib.hid hS5
          have HR5 := Lib.hid rs5
          have HW5 := Lib.hid hW5
          rw [hW5] at hrange
          clear hm5 hS5 rs5 hW5
          go_wp2_with fail
          rw [← HW5.out]
          have hz5 : W5.heap.size = W4.heap.size := by rw [HW5.out]; simp
          have HZ5 := Lib.hid hz5
          have hz42 : W2.heap.size < W4.heap.size := by have := HG4.out.size; have := HZ3.out; omega
          clear hz5 hrange
          have s5 := HS5.out
          have hI6 : IterAt (W5.alloc (.mapIter (some W2.heap.size) ks.length #[] ks.length)) W4.heap.size W2.heap.size ks [] := by rw [← HZ5.out]; exact IterAt.new _ _ _
          go_loopw [11] (fun _ wr => ∃ sn a n c, IterAt wr W4.heap.size W2.heap.size ks sn ∧ MapSet wr W2.heap.size ks (.bool true) ∧ Rec wr (w.heap.size + 1) 69 #[.int .i64 g.p, .int .i64 g.n, .slice ag ng cg, .slice a n c] ∧
            Own wr (W4.heap.size + 1) 3 (.slice a n c) (intVs sn) ∧ Same w wr) (fun _ wr => ks.length - (wr.iterSeen W4.heap.size).size)
          case atStart =>
            exact ⟨[], none, 0, 0, hI6, HM5.out.keep ((Same.refl W5).alloc _).keep, Rec.same ((Same.refl W5).alloc _) HR5.out, World.ownsRow_nil _ _ _ _, HS5.out.alloc _⟩
          case round =>
            obtain ⟨sn, a, n, c, hI, hM, hR, hO, hS⟩ := hrel
            have hsl : sn.length ≤ ks.length := hI.1.length_le_of_subset (fun x hx => hI.2.1 x hx)
            rcases next_set (P := Try.prog) 0 hM hI (by omega) with ⟨hall, hnx⟩ | ⟨x, w', hx, hns, hnx, hI', hG, hen⟩
            · have hso := sort_spec wr _ _ sn hO (by omega)
              have hpe : g.people = sorted sn := by
                rw [Gt.people, HKS.out]
                exact sorted_eq_of_perm ((List.perm_ext_iff_of_nodup HM4.out.1 hI.1).2 fun a => ⟨hall a, hI.2.1 a⟩)
              have p3 := hR.cell 3
              have lr := hR.lt
              simp at p3
              have HPE := Lib.hid hpe
              have HO := Lib.hid hO
              have HR := Lib.hid hR
              clear hpe hall hO hR hI hM hI6
              go_wp2_with fail
              refine hso.mono ?_
              clear hso
              rintro e w2 ⟨rfl, hO2, hG2⟩
              have hrow : ∀ q, (Value.slice a n c).ownBlock = some q → W4.heap.size + 1 ≤ q := fun q hq => (own_base HO.out hq).1
              have hR2 := Rec.grown hG2 HR.out (fun e => by have := hrow _ e.symm; omega)
              have q0 := hR2.cell 0
              have q1 := hR2.cell 1
              have q2 := hR2.cell 2
              have q3 := hR2.cell 3
              have v0 := hR2.frozen 0
              have v1 := hR2.frozen 1
              have v2 := hR2.frozen 2
              have v3 := hR2.frozen 3
              have lr2 := hR2.lt
              simp at q0 q1 q2 q3
              have hS2 := hS.grown hG2 (fun q hq => by have := hrow q hq; omega)
              have HO2 := Lib.hid hO2
              have HG2 := Lib.hid hG2
              clear hO2 hG2
              go_wp2_with fail
              have r4 := hR2.set4 (.int .i64 g.p) (.int .i64 g.n) (.slice ag ng cg) (.slice a n c)
              have e0 := r4.cell 0
              have e1 := r4.cell 1
              have e2 := r4.cell 2
              have e3 := r4.cell 3
              simp at e0 e1 e2 e3
              have hSf := hS2.set4 (b := w.heap.size + 1) (by omega) (.int .i64 g.p) (.int .i64 g.n) (.slice ag ng cg) (.slice a n c)
              have hOf : Own ((((w2.setCell ⟨w.heap.size + 1, 0, none⟩ (.int .i64 g.p)).setCell ⟨w.heap.size + 1, 1, none⟩ (.int .i64 g.n)).setCell ⟨w.heap.size + 1, 2, none⟩ (.slice ag ng cg)).setCell ⟨w.heap.size + 1, 3, none⟩ (.slice a n c)) (W4.heap.size + 1) 3 (.slice a n c) (intVs (sorted sn)) :=
                own_set (own_set (own_set (own_set HO2.out (p := ⟨w.heap.size + 1, 0, none⟩) (by simp; omega) _) (p := ⟨w.heap.size + 1, 1, none⟩) (by simp; omega) _) (p := ⟨w.heap.size + 1, 2, none⟩) (by simp; omega) _) (p := ⟨w.heap.size + 1, 3, none⟩) (by simp; omega) _
              have hIf := own_ints hOf (by rw [sorted_length]; omega)
              refine bodyPost_ret (v := .tuple #[.agg #[.int .i64 g.p, .int .i64 g.n, .slice ag ng cg, .slice a n c], .int .i64 0]) (by simp [results, Try.results57, go_sem, e0, e1, e2, e3]) rfl ?_
              exact ⟨_, _, _, _, _, _, _, _, by rw [HF.out], fun _ => ⟨_, _, rfl, HV.out.keep hSf.keep, by rw [HPE.out]; exact hIf⟩, hSf⟩
            · have hR' := Rec.grown hG hR (by intro e; injection e with e; omega)
              have hO' := own_grown hG hO (fun k e => by injection e with e; omega)
              have hS' := hS.grown hG (fun q hq => by injection hq with hq; omega)
              have hM' := hM.of (hG.block _ hM.lt (by intro e; injection e with e; omega))
              have hlr := hI'.lt
              have p3 := hR'.cell 3
              have lr := hR'.lt
              simp at p3
              have hsz : W4.heap.size + 1 ≤ w'.heap.size := hlr
              have hrow : ∀ q, (Value.slice a n c).ownBlock = some q → W4.heap.size + 1 ≤ q := fun q hq => (own_base hO' hq).1
              have HA := Lib.hid ((own_at hO').alloc (.cells #[.int .i64 x] 3))
              have HB1 := Lib.hid (show ((intVs sn).length + 1) * 8 ≤ 140737488355328 by rw [intVs_len]; omega)
              have HB2 := Lib.hid (show W4.heap.size + 1 ≤ (w'.alloc (.cells #[.int .i64 x] 3)).heap.size by simp; omega)
              have HM' := Lib.hid hM'
              have HI' := Lib.hid hI'
              have HR' := Lib.hid hR'
              have HIS := Lib.hid hI
              clear hO' hM' hI' hR' hO hM hR hI hI6 hG
              go_wp2_with (at_builtin; refine append1 (g := w'.heap.size) (w'.alloc (.cells #[.int .i64 x] 3)) rfl _ _ 25 rfl Try.underlying25 info_int rfl HA.out rfl (.int .i64 x) rfl (cell_one_new _ _ _ 0 _ rfl) rfl HB1.out (by decide) HB2.out ?_)
              rintro a7 n7 c7 w2 hO2 hG2
              have hG3 := World.grownBy.trans (World.grownBy_alloc w' (.cells #[.int .i64 x] 3) _) hG2
              have hR2 := Rec.grown hG3 HR'.out (fun e => by have := hrow _ e.symm; omega)
              have hS2 := hS'.grown hG3 (fun q hq => by have := hrow q hq; omega)
              have q3 := hR2.cell 3
              have v3 := hR2.frozen 3
              have lr2 := hR2.lt
              simp at q3
              have hR3 := hR2.set 3 (.slice a7 n7 c7)
              simp at hR3
              have hO3 := own_set hO2 (p := ⟨w.heap.size + 1, 3, none⟩) (by simp; omega) (.slice a7 n7 c7)
              have hb : ∀ q, q < W4.heap.size + 1 → q ≠ w.heap.size + 1 → (w2.setCell ⟨w.heap.size + 1, 3, none⟩ (.slice a7 n7 c7)).heap[q]? = w'.heap[q]? := by
                intro q hq hne'
                rw [Below.heap_setCell _ _ _ _ hne']
                exact hG3.block q (by omega) (fun e => by have := hrow _ e.symm; omega)
              have hI3 := HI'.out.of (hb _ (Nat.lt_succ_self _) (by omega))
              have hM3 := HM'.out.of (hb W2.heap.size (by omega) (by omega))
              have hS3' := hS2.setCell (p := ⟨w.heap.size + 1, 3, none⟩) (Nat.le_succ _) (.slice a7 n7 c7)
              have hm1 : ((w2.setCell ⟨w.heap.size + 1, 3, none⟩ (.slice a7 n7 c7)).iterSeen W4.heap.size).size = sn.length + 1 := by
                unfold World.iterSeen
                rw [hI3.2.2]
                simp
              have hm2 : (wr.iterSeen W4.heap.size).size = sn.length := by
                unfold World.iterSeen
                rw [HIS.out.2.2]
                simp
              have hlen' : (sn ++ [x]).length ≤ ks.length := HI'.out.1.length_le_of_subset (fun y hy => HI'.out.2.1 y hy)
              rw [List.length_append, List.length_singleton] at hlen'
              have HREL := Lib.hid (And.intro hI3 (And.intro hM3 (And.intro hR3 (And.intro hO3 hS3'))))
              have HMES := Lib.hid (And.intro hm1 (And.intro hm2 hlen'))
              clear hI3 hM3 hR3 hO3 hS3' hm1 hm2 hlen' hb hO2 hG2 hG3 hR2
              go_wp2_with fail
              go_roundw
              case rel => exact ⟨sn ++ [x], a7, n7, c7, HREL.out.1, HREL.out.2.1, HREL.out.2.2.1, by rw [intVs_snoc]; exact HREL.out.2.2.2.1, HREL.out.2.2.2.2⟩
              case measure =>
                have h1 := HMES.out.1
                have h2 := HMES.out.2.1
                have h3 := HMES.out.2.2
                simp only [World.iterSeen] at h1 h2 ⊢
                omega
  · have hb : (ck != 0) = true := by simpa using hc0
    have hfin : g.lcheck alive = ck := by rw [HLC.out, HCK.out, if_pos hc0]
    have HC0 := Lib.hid hc0
    have HF := Lib.hid hfin
    clear hc0 hfin
    go_wp2_with fail
    have r4 := rs2.set4 (.int .i64 0) (.int .i64 0) (.slice none 0 0) (.slice none 0 0)
    have e0 := r4.cell 0
    have e1 := r4.cell 1
    have e2 := r4.cell 2
    have e3 := r4.cell 3
    simp at e0 e1 e2 e3
    refine bodyPost_ret (v := .tuple #[.agg #[.int .i64 0, .int .i64 0, .slice none 0 0, .slice none 0 0], .int .i64 ck]) (by simp [results, Try.results57, go_sem, e0, e1, e2, e3]) rfl ?_
    exact ⟨0, 0, 0, 0, 0, 0, none, none, by rw [HF.out], fun h => by rw [HF.out] at h; exact absurd h HC0.out, (hS1.trans hs2).set4 (by omega) _ _ _ _⟩
end Go.Proofs.Ytmnpbopkhpbhiaa
