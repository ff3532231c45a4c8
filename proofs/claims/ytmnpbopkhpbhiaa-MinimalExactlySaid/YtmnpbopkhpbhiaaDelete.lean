/- slices.IndexFunc, DeleteFunc over ints; living.without. -/
import Derived.Test.YtmnpbopkhpbhiaaInts
set_option linter.unusedVariables false
set_option linter.unusedSimpArgs false
namespace Go.Proofs.Ytmnpbopkhpbhiaa
open Go.RowKit
set_option maxRecDepth 100000
/-- The first element of which p holds, or -1. -/
def idxBy (p : Int → Bool) (xs : List Int) : Int := match xs.findIdx? p with | some i => i | none => -1
theorem idxBy_none {p : Int → Bool} {xs : List Int} (h : ∀ x ∈ xs, p x = false) : idxBy p xs = -1 := by
  have : xs.findIdx? p = none := by simpa [List.findIdx?_eq_none_iff] using h
  simp [idxBy, this]
theorem idxBy_some {p : Int → Bool} {xs : List Int} (k : Nat) (hk : k < xs.length) (h : p xs[k] = true) (hn : ∀ x ∈ xs.take k, p x = false) : idxBy p xs = k := by
  have : xs.findIdx? p = some k := by
    rw [List.findIdx?_eq_some_iff_getElem]
    refine ⟨hk, h, fun j hj => ?_⟩
    have := hn xs[j] (by rw [List.mem_take_iff_getElem]; exact ⟨j, by omega, rfl⟩)
    simp [this]
  simp [idxBy, this]
set_option maxHeartbeats 1000000 in
theorem indexFunc_spec (w : World) (v : Value) (xs : List Int) (h : Ints w v xs) (gf : Nat) (lb : Array Value) (eg : ∀ args w, (callFunc gf args).run Try.prog w = .ok (.enter gf args) w) (p : Int → Bool)
    (hf : ∀ x W, Same w W → Calls Try.prog gf (#[.int .i64 x] ++ lb) W fun e W' => e = .returned (.bool (p x)) ∧ Same W W') :
    Calls Try.prog 128 #[v, .func (.func gf) #[] lb] w fun e w' => e = .returned (.int .i64 (idxBy p xs)) ∧ Same w w' := by
  obtain ⟨a, cap, rfl, hcap, hmax, hc⟩ := h
  have HF := Lib.hid hf
  clear hf
  go_enter Try.func128, Try.ntmps128
  go_wp2_with fail
  go_loopw [8] (fun i wr => ∃ k : Nat, k ≤ xs.length ∧ i = .int .i64 k ∧ (∀ x ∈ xs.take k, p x = false) ∧ Same w wr) (fun i _ => xs.length - (intOf i).toNat)
  case atStart => exact ⟨0, Nat.zero_le _, rfl, by simp, Same.refl w⟩
  case round =>
    obtain ⟨k, hk, rfl, hn, hs⟩ := hrel
    have HN := Lib.hid hn
    clear hn
    by_cases hlt : k < xs.length
    · obtain ⟨ad, u, rfl, hu, hr⟩ := hc k hlt
      unfold RInt at hr
      subst hr
      have hu' := hs.keep.cell hu
      have Hc := HF.out xs[k] wr hs
      have htk : xs.take (k + 1) = xs.take k ++ [xs[k]] := by simp
      have HTK := Lib.hid htk
      clear htk hu
      go_wp2_with fail
      refine Hc.mono ?_
      clear Hc
      rintro e w2 ⟨rfl, hs2⟩
      cases hp : p xs[k] with
      | true =>
        have HP := Lib.hid hp
        clear hp
        go_wp2_with fail
        go_ret
        exact ⟨ret_int (idxBy_some k hlt HP.out HN.out).symm, hs.trans hs2⟩
      | false =>
        have HP := Lib.hid hp
        clear hp
        go_wp2_with fail
        go_roundw
        case rel =>
          refine ⟨k + 1, by omega, by go_num, ?_, hs.trans hs2⟩
          intro x hx
          rw [HTK.out] at hx
          rcases List.mem_append.1 hx with hx | hx
          · exact HN.out x hx
          · obtain rfl : x = xs[k] := by simpa using hx
            exact HP.out
        case measure => simp [intOf]; omega
    · obtain rfl : k = xs.length := by omega
      have hn := HN.out
      rw [List.take_length] at hn
      have H2 := Lib.hid hn
      clear hn
      go_wp2_with fail
      go_ret
      exact ⟨ret_int (idxBy_none H2.out).symm, hs⟩
theorem setCells_grown (b : Nat) : ∀ (vs : List Value) (o : Nat) (w : World), w.grownBy (w.setCells b o vs) (some b)
  | [], _, w => World.grownBy.refl w _
  | v :: r, o, w => by
    refine World.grownBy.trans (b := w.setCell ⟨b, o, none⟩ v) ⟨rfl, rfl, rfl, by simp [World.setCell], fun k hk hne => ?_⟩ (setCells_grown b r (o + 1) _)
    exact Below.heap_setCell _ _ _ _ (fun e => hne (by rw [e]))
theorem owns_keep {w W : World} (h : Keep w W) {base : Nat} {e : TypeId} {size n : Nat} {v : Value} {xs : List Value} (ho : w.ownsRow base e size v n xs) : W.ownsRow base e size v n xs := by
  obtain ⟨h1, h2⟩ := ho
  refine ⟨h1, ?_⟩
  rcases h2 with h2 | ⟨g, cap, cur, hv, hg, hh, r⟩
  · exact .inl h2
  · exact .inr ⟨g, cap, cur, hv, hg, h.same _ _ hh rfl, r⟩
theorem zero_int' (w : World) : (zeroValue 3).run Try.prog w = .ok (.int .i64 0) w := by kernel_rfl
theorem add_plain (g j : Nat) : (⟨g, 0, none⟩ : Addr).add j = ⟨g, j, none⟩ := by unfold Addr.add; split <;> simp_all
theorem intVs_get (xs : List Int) (j : Nat) (h : j < xs.length) : (intVs xs)[j]? = some (.int .i64 xs[j]) := by simp [intVs, h]
theorem intVs_set (xs : List Int) (j : Nat) (x : Int) : (intVs xs).set j (.int .i64 x) = intVs (xs.set j x) := by simp [intVs, List.map_set]
set_option maxHeartbeats 4000000 in
theorem deleteFunc_spec (w : World) (base : Nat) (v : Value) (xs : List Int) (h : Own w base 3 v (intVs xs)) (hmax : xs.length ≤ 17592186044416) (gf : Nat) (lb : Array Value) (eg : ∀ args w, (callFunc gf args).run Try.prog w = .ok (.enter gf args) w) (p : Int → Bool)
    (hf : ∀ x W, w.grownBy W v.ownBlock → Calls Try.prog gf (#[.int .i64 x] ++ lb) W fun e W' => e = .returned (.bool (p x)) ∧ Same W W') :
    Calls Try.prog 99 #[v, .func (.func gf) #[] lb] w fun e w' => ∃ v', e = .returned v' ∧ Ints w' v' (xs.filter fun x => !p x) ∧ w.grownBy w' v.ownBlock := by
  have HI := indexFunc_spec w v xs (own_ints h hmax) gf lb eg p (fun x W hW => hf x W (hW.grownBy _))
  by_cases hall : ∀ x ∈ xs, p x = false
  · have hI := own_ints h hmax
    rw [idxBy_none hall] at HI
    have hfl : xs.filter (fun x => !p x) = xs := by rw [List.filter_eq_self]; intro x hx; simp [hall x hx]
    have HFL := Lib.hid hfl
    have HI2 := Lib.hid hI
    clear hf hall hfl hI
    obtain ⟨a, cap, rfl, -, -, -⟩ := HI2.out
    go_enter Try.func99, Try.ntmps99
    go_wp2_with fail
    refine HI.mono ?_
    clear HI
    rintro e w1 ⟨rfl, hs⟩
    go_wp2_with fail
    go_ret
    exact ⟨_, rfl, by rw [HFL.out]; exact Ints.keep hs.keep HI2.out, hs.grownBy _⟩
  · -- some element goes
    obtain ⟨k, hk, hpk, hn⟩ : ∃ k, ∃ hk : k < xs.length, p xs[k] = true ∧ ∀ x ∈ xs.take k, p x = false := by
      have hex : ∃ x ∈ xs, p x = true := by
        apply Classical.byContradiction
        intro hne
        exact hall fun x hx => by
          cases hpx : p x with
          | false => rfl
          | true => exact (hne ⟨x, hx, hpx⟩).elim
      have hs : (xs.findIdx? p).isSome = true := by
        rw [List.findIdx?_isSome]
        simpa using hex
      obtain ⟨k, hk⟩ := Option.isSome_iff_exists.1 hs
      rw [List.findIdx?_eq_some_iff_getElem] at hk
      obtain ⟨h1, h2, h3⟩ := hk
      refine ⟨k, h1, h2, fun x hx => ?_⟩
      rw [List.mem_take_iff_getElem] at hx
      obtain ⟨j, hj, rfl⟩ := hx
      simpa using h3 j (by omega)
    rw [idxBy_some k hk hpk hn] at HI
    have hvs : ∃ g cap, v = .slice (some ⟨g, 0, none⟩) xs.length cap ∧ xs.length ≤ cap := by
      rcases h.2 with ⟨_, h0⟩ | ⟨g, cap, cur, hv, _, _, h1, _⟩
      · rw [intVs_len] at h0; omega
      · rw [intVs_len] at hv h1; exact ⟨g, cap, hv, h1⟩
    obtain ⟨g, cap, rfl, hcap⟩ := hvs
    simp only [Value.ownBlock] at hf ⊢
    have hftk : (xs.take (k + 1)).filter (fun x => !p x) = xs.take k := by
      have : xs.take (k + 1) = xs.take k ++ [xs[k]] := by simp
      rw [this, List.filter_append, List.filter_eq_self.2 (fun x hx => by simp [hn x hx])]
      simp [hpk]
    have HF := Lib.hid hf
    have HO := Lib.hid h
    have HT := Lib.hid hftk
    clear hf hall h hftk hn hpk
    go_enter Try.func99, Try.ntmps99
    go_wp2_with fail
    refine HI.mono ?_
    clear HI
    rintro e w1 ⟨rfl, hs⟩
    have hkm : ((k : Int) == -1) = false := by simp
    go_wp2_with fail
    go_loopw [5, 6] (fun i j wr => ∃ (a b : Nat) (ys : List Int), b ≤ xs.length ∧ a < b ∧ i = .int .i64 a ∧ j = .int .i64 b ∧ Hid (ys.length = xs.length ∧ ys.take a = (xs.take b).filter (fun x => !p x) ∧ ys.drop b = xs.drop b) ∧
        wr.ownsRow base 3 1 (.slice (some ⟨g, 0, none⟩) xs.length cap) xs.length (intVs ys) ∧ w.grownBy wr (some g)) (fun _ j _ => xs.length - (intOf j).toNat)
    case atStart =>
      refine ⟨k, k + 1, xs, by omega, by omega, rfl, rfl, ⟨rfl, HT.out.symm, rfl⟩, ?_, hs.grownBy _⟩
      have := owns_keep hs.keep HO.out
      rwa [intVs_len] at this
    case round =>
      obtain ⟨a, b, ys, hb, hab, rfl, rfl, hys, hown, hgr⟩ := hrel
      have hyl := hys.out.1
      by_cases hlt : b < xs.length
      · have hyb : ys[b]'(by omega) = xs[b] := by
          have h1 : (ys.drop b)[0]'(by simp; omega) = ys[b]'(by omega) := by simp
          have h2 : (xs.drop b)[0]'(by simp; omega) = xs[b] := by simp
          rw [← h1, ← h2]
          congr 1
          exact hys.out.2.2
        have hcell : wr.cell? ⟨g, b, none⟩ = some (.int .i64 xs[b]) := by
          have := hown.cells (g := g) rfl b _ (intVs_get ys b (by omega))
          rw [hyb, add_plain] at this
          exact this
        have Hc := HF.out xs[b] wr hgr
        have htk : xs.take (b + 1) = xs.take b ++ [xs[b]] := by simp
        have HTK := Lib.hid htk
        have HYL := Lib.hid hyl
        clear htk hyb hyl
        go_wp2_with fail
        refine Hc.mono ?_
        clear Hc
        rintro e w2 ⟨rfl, hs2⟩
        have hown2 := owns_keep hs2.keep hown
        have hgr2 := World.grownBy.trans hgr (hs2.grownBy _)
        cases hp : p xs[b] with
        | true =>
          have HP := Lib.hid hp
          clear hp
          go_wp2_with fail
          go_roundw
          case rel =>
            refine ⟨a, b + 1, ys, by omega, by omega, rfl, by go_num, ⟨HYL.out, ?_, ?_⟩, hown2, hgr2⟩
            · rw [HTK.out, List.filter_append, hys.out.2.1]
              simp [HP.out]
            · rw [← List.drop_drop, ← List.drop_drop, hys.out.2.2]
          case measure => simp [intOf]; omega
        | false =>
          have ha1 : a < ys.length := by rw [HYL.out]; omega
          have hca : w2.cell? ⟨g, a, none⟩ = some (.int .i64 ys[a]) := by
            have := hown2.cells (g := g) rfl a _ (intVs_get ys a ha1)
            rwa [add_plain] at this
          have hfa : w2.frozen? ⟨g, a, none⟩ = false := hown2.frozenAt a
          have hst := hown2.stored a (.int .i64 xs[b])
          rw [intVs_set] at hst
          have hpost : Hid ((ys.set a xs[b]).length = xs.length ∧ (ys.set a xs[b]).take (a + 1) = (xs.take (b + 1)).filter (fun x => !p x) ∧ (ys.set a xs[b]).drop (b + 1) = xs.drop (b + 1)) := by
            refine ⟨by simp [HYL.out], ?_, ?_⟩
            · rw [HTK.out, List.filter_append, ← hys.out.2.1]
              rw [List.take_succ_eq_append_getElem (by simpa using ha1)]
              simp [hp]
              rw [List.take_set, List.set_eq_of_length_le (by simp; omega)]
            · rw [List.drop_set_of_lt (by omega), ← List.drop_drop, ← List.drop_drop, hys.out.2.2]
          have HP := Lib.hid hp
          clear hp
          go_wp2_with fail
          go_roundw
          case rel =>
            refine ⟨a + 1, b + 1, ys.set a xs[b], by omega, by omega, by go_num, by go_num, hpost, hst.1, World.grownBy.trans hgr2 hst.2⟩
          case measure => simp [intOf]; omega
      · obtain rfl : b = xs.length := by omega
        have hax : a < xs.length := hab
        have hcz : ¬ cap = a := by omega
        have hyl' : (intVs ys).length = xs.length := by rw [intVs_len, hyl]
        have hcs : ∀ j, j < xs.length - a → (wr.cell? ⟨g, a + j, none⟩).isSome = true := by
          intro j hj
          have := hown.cells (g := g) rfl (a + j) _ (intVs_get ys (a + j) (by omega))
          rw [add_plain] at this
          rw [this]; rfl
        have hfs : ∀ j, j < xs.length - a → wr.frozen? ⟨g, a + j, none⟩ = false := fun j hj => hown.frozenAt (a + j)
        have hclr := Lib.run_clear_slice (P := Try.prog) wr 25 3 0 (.int .i64 0) Try.underlying25 zero_int' rfl rfl g a (xs.length - a) (cap - a) (by omega) hcs hfs
        have hgc := setCells_grown g (List.replicate (xs.length - a) (.int .i64 0)) a wr
        have hcells : ∀ j (hj : j < a), (wr.setCells g a (List.replicate (xs.length - a) (.int .i64 0))).cell? ⟨g, j, none⟩ = some (.int .i64 (ys[j]'(by omega))) := by
          intro j hj
          rw [World.cell?_setCells_out g _ a wr ⟨g, j, none⟩ (fun _ _ => .inl hj)]
          have := hown.cells (g := g) rfl j _ (intVs_get ys j (by omega))
          rwa [add_plain] at this
        have hres : Ints (wr.setCells g a (List.replicate (xs.length - a) (.int .i64 0))) (.slice (some ⟨g, 0, none⟩) a cap) (ys.take a) := by
          refine ⟨_, cap, by rw [List.length_take, Nat.min_eq_left (by omega)], by rw [List.length_take]; omega, by rw [List.length_take]; omega, fun i hi => ⟨_, _, rfl, ?_, rfl⟩⟩
          rw [add_plain]
          have hia : i < a := by simp at hi; omega
          rw [hcells i hia]
          simp
        rw [hys.out.2.1, List.take_length] at hres
        have HR := Lib.hid hres
        have HYL := Lib.hid hyl
        have HYL' := Lib.hid hyl'
        clear hcs hfs hcells hres hyl hyl'
        go_wp2_with fail
        go_ret
        exact ⟨_, rfl, HR.out, World.grownBy.trans hgr hgc⟩
theorem enters_without1 : ∀ args w, (callFunc 101 args).run Try.prog w = .ok (.enter 101 args) w :=
  enters_of Try.func101 (by kernel_rfl) rfl
/-- Those of l that are not in out. -/
def minus (l out : List Int) : List Int := l.filter fun x => !decide (x ∈ out)
set_option maxHeartbeats 1000000 in
theorem without_spec (w : World) (v vo : Value) (l out : List Int) (h : Ints w v l) (ho : Ints w vo out) :
    Calls Try.prog 58 #[v, vo] w fun e w' => ∃ v', e = .returned v' ∧ Ints w' v' (minus l out) ∧ Same w w' := by
  obtain ⟨W1, hW1⟩ : ∃ W1, W1 = w.alloc (.cells #[vo] 25) := ⟨_, rfl⟩
  have hvo : ∃ a c, vo = .slice a out.length c := by obtain ⟨a, c, e, _⟩ := ho; exact ⟨a, c, e⟩
  obtain ⟨ao, co, rfl⟩ := hvo
  have hS1 : Same w W1 := by rw [hW1]; exact (Same.refl w).alloc _
  have bo : Boxed W1 w.heap.size 25 (.slice ao out.length co) := by rw [hW1]; exact Boxed.new _ _ _
  have hmax : l.length ≤ 17592186044416 := by obtain ⟨_, _, _, _, h, _⟩ := h; exact h
  have HC := clone_spec W1 v l (h.keep hS1.keep)
  have hoW : ∀ W, Keep w W → Ints W (.slice ao out.length co) out := fun W hW => ho.keep hW
  have HO := Lib.hid hoW
  have HB := Lib.hid bo
  rw [hW1] at HC
  have HW1 := Lib.hid hW1
  have hva : ∃ a c, v = .slice a l.length c := by obtain ⟨a, c, e, _⟩ := h; exact ⟨a, c, e⟩
  obtain ⟨al, cl, rfl⟩ := hva
  clear hoW bo hW1 h ho
  go_enter Try.func58, Try.ntmps58
  go_wp2_with fail
  refine HC.mono ?_
  clear HC
  rintro e w2 ⟨v2, rfl, hown, hs2⟩
  rw [← HW1.out] at hs2 hown
  have hv2 : ∃ a c, v2 = .slice a l.length c := by
    have := own_ints hown hmax
    obtain ⟨a, c, e, _⟩ := this
    exact ⟨a, c, e⟩
  have hlow : ∀ q, v2.ownBlock = some q → W1.heap.size ≤ q := fun q hq => (own_base hown hq).1
  have HD := deleteFunc_spec w2 W1.heap.size v2 l hown hmax 101 #[ptr w.heap.size] enters_without1 (fun x => decide (x ∈ out)) ?_
  · obtain ⟨a2, c2, rfl⟩ := hv2
    have HH := Lib.hid hown
    clear hown
    go_wp2_with fail
    refine HD.mono ?_
    clear HD
    rintro e w3 ⟨v3, rfl, hi3, hg3⟩
    have hv3 : ∃ a n c, v3 = .slice a n c := by obtain ⟨a, c, e, _⟩ := hi3; exact ⟨a, _, c, e⟩
    have HI := Lib.hid hi3
    clear hi3
    obtain ⟨a3, n3, c3, rfl⟩ := hv3
    go_wp2_with fail
    go_ret
    exact ⟨_, rfl, HI.out, (hS1.trans hs2).grown hg3 (fun q hq => Nat.le_trans hS1.size (hlow q hq))⟩
  · intro x W hg
    have hboxW : Boxed W w.heap.size 25 (.slice ao out.length co) := by
      have h2 := Boxed.same hs2 HB.out
      have := h2.lt
      unfold Boxed at h2 ⊢
      rw [hg.block _ this (fun e => ?_)]
      · exact h2
      · have := hlow _ e.symm
        have := HB.out.lt
        omega
    have hKW : Keep w W := by
      refine ⟨Nat.le_trans (Nat.le_trans hS1.size hs2.size) hg.size, fun q o hq ho => ?_⟩
      have hql : q < w.heap.size := (Array.getElem?_eq_some_iff.1 hq).1
      rw [hg.block q (by have := hS1.size; have := hs2.size; omega) (fun e => by have := hlow _ e.symm; have := hS1.size; omega)]
      exact (hS1.trans hs2).keep.same q o hq ho
    have Hc := contains_spec W (.slice ao out.length co) out x (HO.out W hKW)
    have c1 := hboxW.cell
    have l1 := hboxW.lt
    clear hg
    go_enter Try.func101, Try.ntmps101
    go_wp2_with fail
    refine Hc.mono ?_
    clear Hc
    rintro e w5 ⟨rfl, rfl⟩
    go_wp2_with fail
    go_ret
    exact ⟨rfl, Same.refl W⟩
end Go.Proofs.Ytmnpbopkhpbhiaa
