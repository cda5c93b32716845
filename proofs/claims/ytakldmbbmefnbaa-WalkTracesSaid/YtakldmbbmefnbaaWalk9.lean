/- slices.DeleteFunc on a row of one's own; walk.live. -/
import Derived.Test.YtakldmbbmefnbaaWalk8
import Derived.Lib.SliceRun
namespace Go.Proofs.Ytakldmbbmefnbaa
open Go.RowKit
set_option maxRecDepth 100000
set_option maxHeartbeats 1000000

theorem setCells_heap (b : Nat) : ∀ (vs : List Value) (o : Nat) (w : World) (cur : Array Value) (t : TypeId), w.heap[b]? = some (.cells cur t (0, 0)) →
    ∃ cur', (w.setCells b o vs).heap[b]? = some (.cells cur' t (0, 0)) ∧ cur'.size = cur.size ∧ ∀ m, m < o → cur'[m]? = cur[m]?
  | [], _, _, cur, _, h => ⟨cur, h, rfl, fun _ _ => rfl⟩
  | v :: r, o, w, cur, t, h => by
    obtain ⟨c2, h1, h2, h3⟩ := setCells_heap b r (o + 1) (w.setCell ⟨b, o, none⟩ v) _ t (heap_set h o v)
    refine ⟨c2, h1, by simpa using h2, fun m hm => ?_⟩
    rw [h3 m (by omega), Array.getElem?_setIfInBounds_ne (by omega)]
theorem setCells_below {w0 : World} (b : Nat) (hb : w0.heap.size ≤ b) : ∀ (vs : List Value) (o : Nat) (w : World), Below w0.heap.size w0 w → Below w0.heap.size w0 (w.setCells b o vs)
  | [], _, _, h => h
  | v :: r, o, w, h => setCells_below b hb r (o + 1) _ (h.setCell hb v)

theorem delete_own (w0 w : World) (hb0 : Below w0.heap.size w0 w) (v fv : Value) (xs : List Int) (p : Int → Bool) (ho : Own encI 1 3 w w0.heap.size v xs) (hp : Pred1 Try.prog (fun x => .int .i64 x) fv (fun _ => True) p w0) (hl : xs.length ≤ 1000000) :
    Calls Try.prog 92 #[v, fv] w (fun r w' => ∃ v', r = .returned v' ∧ Own encI 1 3 w' w0.heap.size v' (xs.filter (fun x => !p x)) ∧ Below w0.heap.size w0 w') := by
  have hix := indexFunc_int v fv xs (fun _ => True) p w (ho.sl encI_len) (hp.below hb0) (fun _ _ => trivial) hl
  obtain ⟨g, lb, rfl, hen, hpc⟩ := id hp
  clear hp
  cases hfx : xs.findIdx? p with
  | none =>
    have hno : ∀ x ∈ xs, p x = false := by simpa using hfx
    have hidx : idxOf p xs = -1 := by unfold idxOf; rw [hfx]
    have hfl : xs.filter (fun x => !p x) = xs := List.filter_eq_self.2 (fun x hx => by simp [hno x hx])
    rw [hfl]
    rw [hidx] at hix
    obtain ⟨A1, c1, rfl, hle1⟩ := ho.form
    clear hno hfl hidx hfx
    go_enter Try.func92, Try.ntmps92
    go_wp2_with (go_at_call 47; refine hix.mono ?_; rintro x w3 ⟨rfl, hb3⟩)
    go_ret
    exact ⟨_, rfl, ho.below hb3, below_next hb0 hb3⟩
  | some k0 =>
    obtain ⟨hk0, hpk, hbef⟩ := List.findIdx?_eq_some_iff_getElem.1 hfx
    have hidx : idxOf p xs = (k0 : Int) := by unfold idxOf; rw [hfx]
    rw [hidx] at hix
    have hkept : (xs.take (k0 + 1)).filter (fun x => !p x) = xs.take k0 := by
      rw [List.take_succ_eq_append_getElem hk0, List.filter_append]
      have h1 : (xs.take k0).filter (fun x => !p x) = xs.take k0 := by
        refine List.filter_eq_self.2 (fun x hx => ?_)
        obtain ⟨j, hj, rfl⟩ := List.getElem_of_mem hx
        rw [List.getElem_take]
        have := hbef j (by simp at hj; omega)
        simpa using this
      rw [h1]
      simp [hpk]
    rcases ho with ⟨rfl, _⟩ | ⟨b, cap, cur, rfl, hbb, hp, h1, h2, hg, hs, ht⟩
    · simp at hk0
    have hcur : ∀ m (h : m < xs.length), cur[m]? = some (.int .i64 xs[m]) := by
      intro m hm
      have h3 := flatMap_get encI_len xs m xs[m] 0 (.int .i64 xs[m]) (List.getElem?_eq_getElem hm) rfl
      rw [← ht, Nat.mul_one, Nat.add_zero, List.getElem?_take_of_lt (by omega), Nat.mul_one] at h3
      simpa using h3
    have hi0 : ((k0 : Int) == -1) = false := by simp
    have HS := Lib.hid (And.intro hs (And.intro hkept (And.intro hk0 (And.intro hcur hg))))
    clear hpk hbef hidx hkept hcur ht hs hfx
    go_enter Try.func92, Try.ntmps92
    go_wp2_with (go_at_call 47; refine hix.mono ?_; rintro x w3 ⟨rfl, hb3⟩)
    have hg3 := (hb3.block b (Array.getElem?_eq_some_iff.1 hg).1).trans hg
    have hb03 := below_next hb0 hb3
    clear hb3 hix hg
    go_loopw [5, 6] (fun i j wr => ∃ (n m : Nat) (cu : Array Value), k0 + 1 ≤ m ∧ m ≤ xs.length ∧ i = .int .i64 n ∧ j = .int .i64 m ∧ n = ((xs.take m).filter (fun x => !p x)).length ∧ n < m ∧
      wr.heap[b]? = some (.cells cu 3 (0, 0)) ∧ cu.size = cur.size ∧ (∀ q (h : q < ((xs.take m).filter (fun x => !p x)).length), cu[q]? = some (.int .i64 (((xs.take m).filter (fun x => !p x))[q]))) ∧ (∀ q (h : q < xs.length), m ≤ q → cu[q]? = some (.int .i64 xs[q])) ∧ Below w0.heap.size w0 wr) (fun _ j _ => xs.length - (intOf j).toNat)
    case atStart =>
      obtain ⟨hs, hkept, hk0, hcur, hg⟩ := HS.out
      refine ⟨k0, k0 + 1, cur, Nat.le_refl _, hk0, rfl, by go_num, ?_, by omega, hg3, rfl, ?_, fun q h _ => hcur q h, hb03⟩
      · rw [hkept]; simp; omega
      · rw [hkept]
        intro q hq
        rw [List.getElem_take]
        exact hcur q _
    case round =>
      obtain ⟨n, m, cu, hm0, hml, rfl, rfl, hn, hnm, hgr, hcs, hpre, hpost, hB⟩ := hrel
      have hs' := HS.out.1
      by_cases hlt : m < xs.length
      · have hcell : wr.cell? ⟨b, m, none⟩ = some (.int .i64 xs[m]) := by rw [cell_at hgr]; exact hpost m hlt (Nat.le_refl _)
        have hcall := hpc wr xs[m] trivial hB
        have htk : (xs.take (m + 1)).filter (fun x => !p x) = (xs.take m).filter (fun x => !p x) ++ (if p xs[m] then [] else [xs[m]]) := by
          rw [List.take_succ_eq_append_getElem hlt, List.filter_append, List.filter_cons]
          cases p xs[m] <;> simp
        have hi1 : (m : Int) < xs.length := by omega
        have hncu : n < cu.size := by omega
        obtain ⟨u, hu⟩ : ∃ u, cu[n]? = some u := ⟨cu[n], Array.getElem?_eq_getElem hncu⟩
        have HX := Lib.hid (And.intro hpre (And.intro hpost (And.intro hn hs')))
        have hxm : ∃ x, xs[m] = x := ⟨_, rfl⟩
        obtain ⟨x, hx⟩ := hxm
        rw [hx] at hcell hcall htk
        have HY := Lib.hid hx
        clear hpre hpost hx hpc hs' hn
        cases hpx : p x with
        | true =>
          rw [hpx] at hcall htk
          have HT := Lib.hid htk
          clear hpx htk
          go_wp2
          refine hcall.mono ?_
          rintro e w2 ⟨rfl, hb2⟩
          have hgr2 := (hb2.block b (Array.getElem?_eq_some_iff.1 hgr).1).trans hgr
          have hB2 := below_next hB hb2
          go_wp2
          go_roundw
          case rel =>
            obtain ⟨hpre, hpost, hn, hs'⟩ := HX.out
            have ht9 := HT.out
            simp only [if_true, List.append_nil] at ht9
            refine ⟨n, m + 1, cu, by omega, by omega, rfl, by go_num, by rw [ht9]; exact hn, by omega, hgr2, hcs, by rw [ht9]; exact hpre, fun q h1 h2 => hpost q h1 (by omega), hB2⟩
          case measure => simp [intOf]; omega
        | false =>
          rw [hpx] at hcall htk
          have HT := Lib.hid htk
          clear hpx htk
          go_wp2
          refine hcall.mono ?_
          rintro e w2 ⟨rfl, hb2⟩
          have hgr2 := (hb2.block b (Array.getElem?_eq_some_iff.1 hgr).1).trans hgr
          have hB2 := below_next hB hb2
          have hcn : w2.cell? ⟨b, n, none⟩ = some u := by rw [cell_at hgr2]; exact hu
          have hfn := free_at hgr2 n
          have hi2 : (n : Int) < xs.length := by omega
          go_wp2
          go_roundw
          case rel =>
            obtain ⟨hpre, hpost, hn, hs'⟩ := HX.out
            have ht9 := HT.out
            simp only [Bool.false_eq_true, if_false] at ht9
            refine ⟨n + 1, m + 1, cu.setIfInBounds n (.int .i64 x), by omega, by omega, by go_num, by go_num, by rw [ht9, List.length_append, ← hn]; rfl, by omega, heap_set hgr2 n _, by simpa using hcs, ?_, ?_, hB2.setCell hbb _⟩
            · rw [ht9]
              intro q hq
              by_cases hqn : q < n
              · rw [Array.getElem?_setIfInBounds_ne (by omega), List.getElem_append_left (by omega)]
                exact hpre q (by omega)
              · have : q = n := by simp at hq; omega
                subst this
                rw [Array.getElem?_setIfInBounds_self_of_lt hncu, List.getElem_append_right (by omega)]
                simp
            · intro q h1 h2
              rw [Array.getElem?_setIfInBounds_ne (by omega)]
              exact hpost q h1 (by omega)
          case measure => simp [intOf]; omega
      · have hmm : m = xs.length := by omega
        subst hmm
        rw [List.take_length] at hn hpre
        have hcapn : ¬ cap = n := by omega
        have hi1 : ¬ (xs.length : Int) < xs.length := by omega
        have hi2 : (n : Int) < xs.length := by omega
        have hi3 : (n : Int) ≤ xs.length := by omega
        have hcl := fun ty => Lib.run_clear_slice (P := Try.prog) wr 22 3 ty (.int .i64 0) Try.underlying22 (fun w => Try.zeroValue3 w) rfl rfl b n (xs.length - n) (cap - n) (by omega)
          (fun j hj => by rw [cell_at hgr, Array.getElem?_eq_getElem (by omega)]; rfl) (fun j hj => free_at hgr _)
        obtain ⟨c2, hc2, hc3, hc4⟩ := setCells_heap b (List.replicate (xs.length - n) (.int .i64 0)) n wr cu 3 hgr
        have hB9 := setCells_below b hbb (List.replicate (xs.length - n) (.int .i64 0)) n wr hB
        have HX := Lib.hid (And.intro hpre (And.intro hn (And.intro hc4 (And.intro hs' (And.intro hc2 (And.intro hc3 hB9))))))
        clear hpre hpost hc4 hs' hn hpc hen hc2 hc3 hB9
        go_wp2
        go_ret
        obtain ⟨hpre, hn, hc4, hs', hc2, hc3, hB9⟩ := HX.out
        refine ⟨_, rfl, .inr ⟨b, cap, c2, by rw [← hn]; rfl, hbb, hp, by omega, h2, hc2, by omega, ?_⟩, hB9⟩
        rw [encI_flat, Nat.mul_one]
        apply List.ext_getElem?
        intro q
        by_cases hq : q < (xs.filter (fun x => !p x)).length
        · rw [List.getElem?_take_of_lt hq, Array.getElem?_toList, hc4 q (by omega), hpre q hq]
          simp [hq]
        · rw [List.getElem?_take_eq_none (by omega), List.getElem?_eq_none (by simp; simp at hq; omega)]

theorem live_ok (b : Nat) (a : A) (vs vf ve : Value) (w : World) (hk : Wk w b a vs vf ve) (ha : Fit a) :
    Calls Try.prog 44 #[pw b] w (fun r w' => ∃ v', r = .returned v' ∧ Own encI 1 3 w' w.heap.size v' a.live ∧ Below w.heap.size w w') := by
  have hal := alive_ok b a vs vf ve w hk ha
  have hall : a.alive.length ≤ 1000000 := Nat.le_trans (cl_len ..) (Nat.le_trans ha.small (by decide))
  have hrl : (a.reach a.start).length ≤ 1000000 := Nat.le_trans (cl_len ..) (Nat.le_trans ha.small (by decide))
  have hres : (a.reach a.start).filter (fun x => !(!a.alive.any (fun y => x == y))) = a.live := by simp [A.live]
  have hrc := fun W (h : Wk W b a vs vf ve) => reach_ok b a vs vf ve vs a.start W h ha h.fa.s ha.start ha.s
  generalize a.reach a.start = re at *
  generalize a.alive = al at *
  generalize a.live = li at *
  have hlt := hk.lt
  have hq1 := hk.c1
  obtain ⟨A0, c, rfl, _⟩ := id hk.fa.s
  go_enter Try.func44, Try.ntmps44
  go_wp2_with (go_at_call 46; refine hal.mono ?_; rintro e w1 ⟨v1, rfl, ho1, hb1⟩; obtain ⟨A1, c1, rfl, hle1⟩ := ho1.form; obtain ⟨W2, hW2⟩ : ∃ W2, w1.alloc (.cells #[.slice A1 al.length c1] 22) = W2 := ⟨_, rfl⟩; have d2 : Below w1.heap.size w1 W2 := hW2 ▸ alloc1 w1 _; have hk2 := (hk.below hb1).below d2; have hq2 := hk2.c1; have hrc2 := hrc W2 hk2)
  refine hrc2.mono ?_
  rintro e w3 ⟨v3, rfl, ho3, hb3⟩
  obtain ⟨A3, c3, rfl, hle3⟩ := ho3.form
  have z2 : W2.heap.size = w1.heap.size + 1 := by rw [← hW2]; simp
  have q2 : W2.cell? ⟨w1.heap.size, 0, none⟩ = some (.slice A1 al.length c1) := by rw [← hW2, cell_new]; rfl
  have hpr := live1_pred al _ w1.heap.size W2 q2 ((ho1.sl encI_len).below d2 d2.size) hall
  have hde := delete_own W2 w3 hb3 _ _ re _ ho3 hpr hrl
  rw [hres] at hde
  have dw2 := below_next hb1 d2
  clear z2 q2 hpr hres hrc hal hrc2 hq2 hk2 hW2 d2
  go_wp2_with (go_at_call 92; refine hde.mono ?_; rintro e w4 ⟨v4, rfl, ho4, hb4⟩; obtain ⟨A4, c4, rfl, hle4⟩ := ho4.form)
  go_ret
  exact ⟨_, rfl, ho4.lower dw2.size, below_next dw2 hb4⟩
end Go.Proofs.Ytakldmbbmefnbaa
