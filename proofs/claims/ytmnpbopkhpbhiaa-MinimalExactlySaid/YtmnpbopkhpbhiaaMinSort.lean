/- slices.Compare, minimal.compare, slices.SortFunc over rows of the call's own. slices.SortFunc by minimal.compare, over rows of the call's own. -/
import Derived.Test.YtmnpbopkhpbhiaaPlainAgree
import Derived.Test.YtmnpbopkhpbhiaaShelf
import Derived.Shelf.SlSortCmp.NoneTotal
set_option linter.unusedVariables false
set_option linter.unusedSimpArgs false
namespace Go.Proofs.Ytmnpbopkhpbhiaa
section
open Go.RowKit
set_option maxRecDepth 100000
theorem lexC_take : ∀ (k : Nat) (a b : List Int), k ≤ a.length → k ≤ b.length → a.take k = b.take k → lexC a b = lexC (a.drop k) (b.drop k)
  | 0, a, b, _, _, _ => by simp
  | k + 1, [], b, h, _, _ => by simp at h
  | k + 1, _ :: _, [], _, h, _ => by simp at h
  | k + 1, x :: xs, y :: ys, h1, h2, h => by
    simp only [List.take_succ_cons, List.cons.injEq] at h
    obtain ⟨rfl, h⟩ := h
    rw [lexC, if_neg (by omega), if_neg (by omega), List.drop_succ_cons, List.drop_succ_cons]
    exact lexC_take k xs ys (by simpa using h1) (by simpa using h2) h
set_option maxHeartbeats 2000000 in
theorem slcompare_spec (w : World) (v vo : Value) (xs ys : List Int) (h : Ints w v xs) (ho : Ints w vo ys) :
    Calls Try.prog 141 #[v, vo] w fun e w' => e = .returned (.int .i64 (lexC xs ys)) ∧ w = w' := by
  obtain ⟨a, cap, rfl, -, hmax, hc⟩ := h
  obtain ⟨ao, co, rfl, -, hmo, ho⟩ := ho
  have HC := Lib.hid hc
  have HO := Lib.hid ho
  have HCMP := Lib.hid (Try.cmp_Compare_int)
  clear hc ho
  go_enter Try.func141, Try.ntmps141
  go_wp2_with fail
  go_loop [11] (fun i => ∃ k : Nat, k ≤ xs.length ∧ i = .int .i64 k ∧ Hid (k ≤ ys.length ∧ xs.take k = ys.take k)) (fun i => xs.length - (intOf i).toNat)
  case atStart => exact ⟨0, Nat.zero_le _, rfl, Lib.hid ⟨Nat.zero_le _, rfl⟩⟩
  case round =>
    obtain ⟨k, hk, rfl, HN⟩ := hrel
    have hd := lexC_take k xs ys hk HN.out.1 HN.out.2
    have hky := HN.out.1
    by_cases hlt : k < xs.length
    · obtain ⟨ad, u, rfl, hu, hr⟩ := HC.out k hlt
      unfold RInt at hr
      subst hr
      rw [← List.getElem_cons_drop hlt] at hd
      by_cases hlt2 : k < ys.length
      · obtain ⟨ad2, u2, rfl, hu2, hr2⟩ := HO.out k hlt2
        unfold RInt at hr2
        subst hr2
        rw [← List.getElem_cons_drop hlt2, lexC] at hd
        have htk : xs[k] = ys[k] → xs.take (k + 1) = ys.take (k + 1) := fun e => by
          rw [List.take_succ_eq_append_getElem hlt, List.take_succ_eq_append_getElem hlt2, HN.out.2, e]
        have HTK := Lib.hid htk
        have Hc := HCMP.out xs[k] ys[k] w
        have HD := Lib.hid hd
        clear htk hd hky
        generalize xs[k] = p at *
        generalize ys[k] = q at *
        have HCI := Lib.hid (show Lib.compareInt p q = if p < q then -1 else if q < p then 1 else 0 from rfl)
        by_cases he : p = q
        · have hce : Lib.compareInt p q = 0 := by rw [HCI.out, if_neg (by omega), if_neg (by omega)]
          rw [hce] at Hc
          have HE := Lib.hid he
          clear he hce
          go_wp2_with fail
          refine Hc.mono ?_
          clear Hc
          rintro e w' ⟨rfl, rfl⟩
          go_wp2_with fail
          go_round
          case rel => exact ⟨k + 1, by omega, by go_num, Lib.hid ⟨hlt2, HTK.out HE.out⟩⟩
          case measure => simp [intOf]; omega
        · have hce : (Lib.compareInt p q != 0) = true := by rw [HCI.out]; by_cases h : p < q <;> simp [h]; omega
          have hres : lexC xs ys = Lib.compareInt p q := by
            rw [HD.out, HCI.out]
            by_cases h : p < q
            · rw [if_pos h, if_pos h]
            · rw [if_neg h, if_neg h, if_pos (by omega), if_pos (by omega)]
          have HR := Lib.hid hres
          generalize Lib.compareInt p q = cr at *
          clear he hres
          go_wp2_with fail
          refine Hc.mono ?_
          clear Hc
          rintro e w' ⟨rfl, rfl⟩
          go_wp2_with fail
          go_ret
          exact ⟨ret_int (by rw [HR.out]), rfl⟩
      · obtain rfl : k = ys.length := by omega
        rw [List.drop_of_length_le (Nat.le_refl _), lexC] at hd
        have HD := Lib.hid hd
        clear hd hky
        go_wp2_with fail
        go_ret
        exact ⟨ret_int (by rw [HD.out]), rfl⟩
    · obtain rfl : k = xs.length := by omega
      rw [List.drop_of_length_le (Nat.le_refl _)] at hd
      by_cases hlt2 : xs.length < ys.length
      · have hr : lexC xs ys = -1 := by
          rw [hd, ← List.getElem_cons_drop hlt2]; rfl
        have HR := Lib.hid hr
        clear hd hr
        go_wp2_with fail
        go_ret
        exact ⟨ret_int (by rw [HR.out]), rfl⟩
      · have hr : lexC xs ys = 0 := by
          rw [hd, List.drop_of_length_le (by omega)]; rfl
        have HR := Lib.hid hr
        clear hd hr
        go_wp2_with fail
        go_ret
        exact ⟨ret_int (by rw [HR.out]), rfl⟩
set_option maxHeartbeats 2000000 in
theorem compare_spec (w : World) (v vo : Value) (xs ys : List Int) (h : Ints w v xs) (ho : Ints w vo ys) :
    Calls Try.prog 121 #[v, vo] w fun e w' => e = .returned (.int .i64 (cmpI xs ys)) ∧ w = w' := by
  have HS := slcompare_spec w v vo xs ys h ho
  have hm1 : xs.length ≤ 17592186044416 := by obtain ⟨_, _, _, _, h, _⟩ := h; exact h
  have hm2 : ys.length ≤ 17592186044416 := by obtain ⟨_, _, _, _, h, _⟩ := ho; exact h
  obtain ⟨a, n, c, rfl, rfl⟩ := h.slice
  obtain ⟨ao, no, co, rfl, rfl⟩ := ho.slice
  have hd : cmpI xs ys = if xs.length ≠ ys.length then (xs.length : Int) - ys.length else lexC xs ys := rfl
  have HD := Lib.hid hd
  clear h ho hd
  generalize lexC xs ys = r at *
  generalize cmpI xs ys = rr at *
  generalize xs.length = n at *
  generalize ys.length = m at *
  by_cases hl : n = m
  · have hb : ((n : Int) != (m : Int)) = false := by simp [hl]
    have HL := Lib.hid hl
    clear hl
    go_enter Try.func121, Try.ntmps121
    go_wp2_with fail
    refine HS.mono ?_
    clear HS
    rintro e w' ⟨rfl, rfl⟩
    go_wp2_with fail
    go_ret
    exact ⟨ret_int (by rw [HD.out, if_neg (by simpa using HL.out)]), rfl⟩
  · have hb : ((n : Int) != (m : Int)) = true := by simp; omega
    have hw : IntKind.i64.wrap ((n : Int) - m) = (n : Int) - m := IntWalk.i64_in _ (by omega)
    have HL := Lib.hid hl
    clear hl HS
    go_enter Try.func121, Try.ntmps121
    go_wp2_with fail
    go_ret
    exact ⟨ret_int (by rw [HD.out, if_pos HL.out]), rfl⟩
end
section
open Go.RowKit
set_option maxRecDepth 100000
section
variable {α : Type} [Inhabited α] {enc : α → Value}
theorem heap_sortedG {w : World} {g n : Nat} {os : Array Obj} {cur : Array Value} {e : TypeId} {fr : Nat × Nat} (d : Array α) (hb : w.heap[g]? = some (.cells cur e fr)) :
    (Go.Proofs.sortWorld enc w g 0 n d os).heap[g]? = some (.cells (Go.Sort.putCells enc 0 d cur) e fr) := by
  have hg : g < w.heap.size := (Array.getElem?_eq_some_iff.1 hb).1
  unfold Go.Proofs.sortWorld
  rw [Go.Sort.heap_grow_old _ _ (by simpa using hg)]
  simp [Go.Sort.putRow, Go.Sort.mapBlock, Go.Sort.ahead, Array.getElem?_modify, hb, Go.Sort.onCells]
theorem grownBy_sortedG {w : World} {g n : Nat} {os : Array Obj} (d : Array α) : w.grownBy (Go.Proofs.sortWorld enc w g 0 n d os) (some g) := by
  refine ⟨rfl, rfl, rfl, by simp [Go.Proofs.sortWorld], fun k hk hne => ?_⟩
  unfold Go.Proofs.sortWorld
  rw [Go.Sort.heap_grow_old _ _ (by simpa using hk)]
  have : g ≠ k := fun e => hne (by rw [e])
  simp [Go.Sort.putRow, Go.Sort.mapBlock, Go.Sort.ahead, Array.getElem?_modify, this]
theorem take_putCellsG (cur : Array Value) (ts : List α) (h : ts.length ≤ cur.size) : (Go.Sort.putCells enc 0 ts.toArray cur).toList.take ts.length = ts.map enc := by
  apply List.ext_getElem?
  intro j
  by_cases hj : j < ts.length
  · rw [List.getElem?_take_of_lt hj, Array.getElem?_toList]
    simp [Go.Sort.putCells, hj, show j < cur.size by omega]
  · rw [List.getElem?_take_eq_none (by omega), List.getElem?_eq_none (by simp; omega)]
end
/-- A row with its value. -/
def RowV (w : World) (base : Nat) : Type := { p : Value × List Int // Own w base 3 p.1 (intVs p.2) ∧ p.2.length ≤ 17592186044416 }
def RowV.u {w : World} {base : Nat} (p : RowV w base) : Value := p.1.1
def RowV.x {w : World} {base : Nat} (p : RowV w base) : List Int := p.1.2
theorem rowV_list {w : World} {base : Nat} : ∀ {us : List Value} {xss : List (List Int)}, Rows w base us xss → (∀ x ∈ xss, x.length ≤ 17592186044416) → ∃ l : List (RowV w base), l.map RowV.u = us ∧ l.map RowV.x = xss
  | [], [], _, _ => ⟨[], rfl, rfl⟩
  | [], _ :: _, h, _ => by have := h.1; simp at this
  | _ :: _, [], h, _ => by have := h.1; simp at this
  | u :: us, x :: xss, h, hm => by
    have h' : Rows w base us xss := ⟨by have := h.1; simpa using this, fun j h1 h2 => h.2 (j + 1) (by simpa using h1) (by simpa using h2)⟩
    obtain ⟨l, rfl, rfl⟩ := rowV_list h' fun x hx => hm x (by simp [hx])
    exact ⟨⟨(u, x), h.2 0 (by simp) (by simp), hm x (by simp)⟩ :: l, rfl, rfl⟩
theorem enters_compare : ∀ args w, (callFunc 121 args).run Try.prog w = .ok (.enter 121 args) w :=
  enters_of Try.func121 (by kernel_rfl) rfl
set_option maxHeartbeats 1000000 in
theorem sortF_spec (w : World) (base : Nat) (v : Value) (us : List Value) (xss : List (List Int)) (hown : Own w base 25 v us) (hrows : Rows w base us xss) (hl : xss.length ≤ 17592186044416) (hm : ∀ x ∈ xss, x.length ≤ 17592186044416) :
    Calls Try.prog 120 #[v, .func (.func 121) #[] #[]] w fun e w' => e = .returned (.tuple #[]) ∧
      ∃ us' xss', Own w' base 25 v us' ∧ Rows w' base us' xss' ∧ xss'.Perm xss ∧ (xss'.Pairwise fun a b => beforeB b a = false) ∧ w.grownBy w' v.ownBlock := by
  have hown0 := hown
  obtain ⟨l, hlu, hlx⟩ := rowV_list hrows hm
  rcases hown.2 with ⟨hv, hn⟩ | ⟨g, cap, cur, hv, hbase, hb, h1, h2, h3, h4⟩
  · obtain rfl := List.eq_nil_of_length_eq_zero hn
    have hx : xss = [] := List.eq_nil_of_length_eq_zero hrows.1.symm
    subst hx hv
    refine (AnyF.slices_SortFunc_none (ρ := Try.laysSlF6_f120_ren) { Try.laysSlF6_f120 with } none 0 (.func (.func 121) #[] #[]) w).mono ?_
    rintro e w' ⟨rfl, rfl⟩
    exact ⟨rfl, [], [], hown, hrows, List.Perm.refl _, List.Pairwise.nil, World.grownBy.refl _ _⟩
  · have hlen : us.length = l.length := by rw [← hlu, List.length_map]
    have hlenx : xss.length = l.length := by rw [← hlx, List.length_map]
    by_cases hnil : l = []
    · subst hnil
      have hu : us = [] := hlu.symm
      have hx : xss = [] := hlx.symm
      subst hu hx hv
      refine (AnyF.slices_SortFunc_none (ρ := Try.laysSlF6_f120_ren) { Try.laysSlF6_f120 with } (some ⟨g, 0, none⟩) cap (.func (.func 121) #[] #[]) w).mono ?_
      rintro e w' ⟨rfl, rfl⟩
      exact ⟨rfl, [], [], hown, hrows, List.Perm.refl _, List.Pairwise.nil, World.grownBy.refl _ _⟩
    · obtain ⟨x0, hx0⟩ := List.exists_mem_of_ne_nil l hnil
      letI : Inhabited (RowV w base) := ⟨x0⟩
      subst hv
      have hH : Go.Sort.Holds (RowV.u (w := w) (base := base)) w g 0 l.toArray := by
        intro j hj
        have hj' : j < l.length := by simpa using hj
        refine ⟨?_, by simp [World.frozen?, hb]⟩
        have e1 : (cur.toList.take us.length)[j]? = us[j]? := by rw [hlen, ← hlen]; simpa [Nat.mul_one] using congrArg (·[j]?) h4
        rw [List.getElem?_take_of_lt (by omega)] at e1
        simp only [World.cell?, hb, Nat.zero_add]
        simp only [Option.isSome_none, Bool.false_eq_true, if_false]
        rw [← Array.getElem?_toList, e1, ← hlu]
        simp [hj']
      have hcmp : CmpLays1 Try.prog 121 #[] (RowV.u (w := w) (base := base)) (fun p q => cmpI p.x q.x) g 0 l.toArray.size w := by
        intro m os dk hdk p q
        have hgr := grownBy_sortedG (enc := RowV.u (w := w) (base := base)) (w := w) (g := g) (n := m) (os := os) dk
        have hi : ∀ r : RowV w base, Ints (Go.Proofs.sortWorld RowV.u w g 0 m dk os) r.u r.x := fun r => own_ints (own_other r.2.1 hown0 int_ne hgr) r.2.2
        refine (compare_spec _ _ _ p.x q.x (hi p) (hi q)).mono ?_
        rintro e w' ⟨rfl, rfl⟩
        exact ⟨rfl, 0, #[], by rw [Go.Sort.grow_empty]; rfl⟩
      have hO : Go.Sort.SWO (ltOf fun p q : RowV w base => cmpI p.x q.x) := before_swo RowV.x
      have h1c : OneCell (RowV.u (w := w) (base := base)) := by
        intro r
        rcases r.2.1.2 with ⟨e, _⟩ | ⟨g', cap', cur', e, _⟩
        · show Value.oneCell' r.1.1 = true
          rw [e]; rfl
        · show Value.oneCell' r.1.1 = true
          rw [e]; rfl
      have hc := Try.slices_SortFunc (RowV.u (w := w) (base := base)) h1c (fun p q => cmpI p.x q.x) hO 121 #[] g 0 cap l.toArray w enters_compare hcmp hH (Array.getElem?_eq_some_iff.1 hb).1 (by simp; omega)
      rw [show l.toArray.size = us.length from by simp [hlen]] at hc
      refine hc.mono ?_
      rintro e w' ⟨rfl, d', n, os, ⟨hp1, -, hp2⟩, hs, rfl⟩
      have hgr := grownBy_sortedG (enc := RowV.u (w := w) (base := base)) (w := w) (g := g) (n := n) (os := os) d'
      have hsz : d'.toList.length = us.length := by simp [hp1, hlen]
      have hperm : d'.toList.Perm l := by
        have e1 : (d'.extract 0 us.length).toList = d'.toList := by simp [← hsz]
        have e2 : (l.toArray.extract 0 us.length).toList = l := by simp [hlen]
        rw [e1, e2] at hp2
        exact hp2
      refine ⟨rfl, d'.toList.map RowV.u, d'.toList.map RowV.x, ?_, ⟨by simp, fun j hj hj' => ?_⟩, ?_, ?_, hgr⟩
      · refine ⟨by simp, .inr ⟨g, cap, _, by rw [List.length_map, hsz], hbase, heap_sortedG d' hb, by rw [List.length_map, hsz]; exact h1, h2, by simp [Go.Sort.putCells, h3], ?_⟩⟩
        rw [Nat.mul_one, List.length_map]
        have := take_putCellsG (enc := RowV.u (w := w) (base := base)) cur d'.toList (by omega)
        simpa using this
      · rw [List.getElem_map, List.getElem_map]
        exact own_other (d'.toList[j]'(by simpa using hj)).2.1 hown0 int_ne hgr
      · rw [← hlx]; exact hperm.map _
      · rw [List.pairwise_map, List.pairwise_iff_getElem]
        intro i j hi hj hij
        have h := hs i j (Nat.zero_le _) hij (by omega)
        simp only [ltOf, decide_eq_false_iff_not, cmpI_lt] at h
        rw [getElem!_pos d' i (by simpa using hi), getElem!_pos d' j (by simpa using hj)] at h
        simpa using h
end
end Go.Proofs.Ytmnpbopkhpbhiaa
