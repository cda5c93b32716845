/- walk: far. -/
import Derived.Test.YtakldmbbmefnbaaWalk10
namespace Go.Proofs.Ytakldmbbmefnbaa
open Go.RowKit
set_option maxRecDepth 100000
set_option maxHeartbeats 2000000

/-- A row of numbers in a block of its own. -/
def Row (w : World) (b : Nat) (D : List Int) : Prop := w.heap[b]? = some (.cells (D.map (Value.int .i64)).toArray 3 (0, 0))
theorem Row.cell {w : World} {b : Nat} {D : List Int} (h : Row w b D) (q : Nat) (hq : q < D.length) : w.cell? ⟨b, q, none⟩ = some (.int .i64 D[q]) := by
  rw [cell_at h]; simp [hq]
theorem Row.free {w : World} {b : Nat} {D : List Int} (h : Row w b D) (q : Nat) : w.frozen? ⟨b, q, none⟩ = false := free_at h q
theorem Row.set {w : World} {b : Nat} {D : List Int} (h : Row w b D) (q : Nat) (x : Int) : Row (w.setCell ⟨b, q, none⟩ (.int .i64 x)) b (D.set q x) := by
  unfold Row
  rw [heap_set h]
  simp [List.map_set]
theorem Row.below {w w' : World} {b : Nat} {D : List Int} (h : Row w b D) (hb : Below w.heap.size w w') : Row w' b D := (hb.block b (Array.getElem?_eq_some_iff.1 h).1).trans h
theorem Row.start {w : World} {b n : Nat} (h : w.heap[b]? = some (.cells (madeCells #[.int .i64 0] n) 3 (0, 0))) : Row w b (List.replicate n 0) := by
  unfold Row
  rw [h]
  have : (madeCells #[Value.int .i64 0] n) = (List.replicate n (.int .i64 0)).toArray := by rw [← toList_madeCells_one]
  rw [this]
  simp
theorem Row.own {w : World} {b base : Nat} {D : List Int} (h : Row w b D) (hb : base ≤ b) (hl : D.length ≤ 1000000) : Own encI 1 3 w base (.slice (some ⟨b, 0, none⟩) D.length D.length) D := by
  rcases Nat.eq_zero_or_pos D.length with h0 | h0
  · have : D = [] := List.eq_nil_of_length_eq_zero h0
    subst this
    exact .inl ⟨rfl, _, rfl⟩
  · refine .inr ⟨b, D.length, _, rfl, hb, h0, Nat.le_refl _, by simp [maxLen]; omega, h, by simp, ?_⟩
    rw [encI_flat]
    simp only [Nat.mul_one]
    exact List.take_of_length_le (by simp)

/-- Does an edge lead on as the distances say? -/
def EdgeOk (D : List Int) (e : E) : Prop := ∀ (s t : Nat), e.src = s → e.dst = t → ∀ (hs : s < D.length) (ht : t < D.length), D[s] ≤ D[t] + cost e

theorem far_ok (b : Nat) (a : A) (vs vf ve : Value) (w : World) (hk : Wk w b a vs vf ve) (ha : Fit a) :
    Calls Try.prog 89 #[pw b] w (fun r w' => ∃ v' D, r = .returned v' ∧ Own encI 1 3 w' w.heap.size v' D ∧ Below w.heap.size w w' ∧ Dist a a.states.toNat D) := by
  obtain ⟨n, hn⟩ : ∃ n : Nat, a.states = n := ⟨a.states.toNat, by have := ha.ok; simp [A.ok] at this; omega⟩
  obtain ⟨i0, hi0, hz0, hs0, hby0⟩ := info_parts info_int
  have hn2 : a.states.toNat = n := by omega
  rw [hn2]
  have hnn : n ≤ 1000 := by have := ha.n; omega
  have hB1 : i0.bytes * n ≤ 281474976710656 := by rw [hby0]; omega
  have hN : n ≤ 4611686018427387904 := by omega
  have hq0 := hk.c0
  have hq2 := hk.c2
  have hq3 := hk.c3
  rw [hn] at hq0
  have hlt := hk.lt
  obtain ⟨Af, cf, rfl, hrf⟩ := id hk.fa.f
  obtain ⟨Ae, ce, rfl, hre⟩ := id hk.fa.e
  have hfin : ∀ s ∈ a.final, 0 ≤ s ∧ s < n := by
    intro s hs
    have := List.all_eq_true.1 ha.final s hs
    simp [inB, hn] at this
    omega
  have heb : ∀ e ∈ a.edges, (0 ≤ e.src ∧ e.src < n) ∧ 0 ≤ e.dst ∧ e.dst < n := by
    intro e he
    have h := ha.ok
    simp only [A.ok, Bool.and_eq_true, List.all_eq_true] at h
    have := h.2 e he
    simp [mayE, inB, hn] at this
    omega
  have hfl := ha.f
  have hel := ha.e
  obtain ⟨W1, hW1⟩ : ∃ W1, w.alloc (.cells (madeCells #[Value.int .i64 0] n) 3) = W1 := ⟨_, rfl⟩
  have d1 : Below w.heap.size w W1 := hW1 ▸ alloc1 w _
  have r1 : Row W1 w.heap.size (List.replicate n 0) := Row.start (by rw [← hW1]; exact heap_alloc_new w _)
  have HF := Lib.hid (And.intro hfin (And.intro heb (And.intro hrf hre)))
  clear hk hrf hre hfin heb
  go_enter Try.func89, Try.ntmps89
  go_wp2_with (at_make; refine wpList_make_z _ rfl _ _ 22 rfl _ i0 _ 1 Try.underlying22 hi0 hz0 hs0 n rfl rfl hB1 hN ?_)
  go_loopw [19] (fun i wr => ∃ (k : Nat) (D : List Int), k ≤ n ∧ i = .int .i64 k ∧ D.length = n ∧ Row wr w.heap.size D ∧ Below w.heap.size w wr ∧ ∀ q (h : q < D.length), q < k → D[q] = n) (fun i _ => n - (intOf i).toNat)
  case atStart => exact ⟨0, _, Nat.zero_le _, rfl, by simp, r1, d1, fun q _ h => absurd h (Nat.not_lt_zero q)⟩
  case round =>
    obtain ⟨k, D, hkn, rfl, hDl, hR, hB, hD⟩ := hrel
    by_cases hlt2 : k < n
    · have hc0 := (hB.cell (p := ⟨b, 0, none⟩) hlt).trans hq0
      have hcd := hR.cell k (by omega)
      have hfd := hR.free k
      have hi1 : (k : Int) < n := by omega
      have HD := Lib.hid hD
      clear hD
      generalize D[k] = old at *
      go_wp2
      go_roundw
      case rel =>
        refine ⟨k + 1, D.set k n, by omega, by go_num, by simpa using hDl, hR.set k n, hB.setCell (Nat.le_refl _) _, fun q hq h => ?_⟩
        by_cases e : k = q
        · subst e; rw [List.getElem_set_self]
        · rw [List.getElem_set_ne e]; exact HD.out q _ (by omega)
      case measure => simp [intOf]; omega
    · have hkk : k = n := by omega
      subst hkk
      have hi1 : ¬ (k : Int) < k := by omega
      have hall : ∀ q (h : q < D.length), D[q] = (k : Int) := fun q h => hD q h (by omega)
      have hc2 := (hB.cell (p := ⟨b, 2, none⟩) hlt).trans hq2
      have HD := Lib.hid hall
      clear hD hall
      go_wp2
      go_loopw [37] (fun i wr => ∃ (j : Nat) (D : List Int), j ≤ a.final.length ∧ i = .int .i64 j ∧ D.length = k ∧ Row wr w.heap.size D ∧ Below w.heap.size w wr ∧ (∀ q (h : q < D.length), D[q] = k ∨ (D[q] = 0 ∧ (q : Int) ∈ a.final)) ∧ ∀ i' (h' : i' < a.final.length), i' < j → ∀ q : Nat, a.final[i'] = q → ∀ h : q < D.length, D[q] = 0) (fun i _ => a.final.length - (intOf i).toNat)
      case atStart => exact ⟨0, D, Nat.zero_le _, rfl, hDl, hR, hB, fun q h => .inl (HD.out q h), fun i' _ h => absurd h (Nat.not_lt_zero i')⟩
      case round =>
        clear hDl hR hB HD hc2
        clear D
        obtain ⟨j, D, hjl, rfl, hDl, hR, hB, hD1, hD2⟩ := hrel
        by_cases hlt3 : j < a.final.length
        · obtain ⟨hfin, _, hrf, _⟩ := HF.out
          obtain ⟨fb, fo, rfl, hfb, hfc⟩ := hrf (by omega)
          have hcell := (hB.cell (p := ⟨fb, fo + j, none⟩) hfb).trans (cell1 encI_eq hfc hlt3)
          have hs := hfin _ (List.getElem_mem hlt3)
          obtain ⟨s, hsx⟩ : ∃ s : Nat, a.final[j] = s := ⟨a.final[j].toNat, by omega⟩
          have hsm : (s : Int) ∈ a.final := hsx ▸ List.getElem_mem hlt3
          rw [hsx] at hcell
          have hsn : s < D.length := by omega
          have hcd := hR.cell s hsn
          have hfd := hR.free s
          have hi2 : (j : Int) < a.final.length := by omega
          have hi3 : (s : Int) < k := by omega
          have HD := Lib.hid (And.intro hD1 (And.intro hD2 (And.intro hsx hsm)))
          clear hD1 hD2 hfin hrf hfc hs hsx hsm
          generalize D[s] = old at *
          go_wp2
          go_roundw
          case rel =>
            obtain ⟨hD1, hD2, hsx, hsm⟩ := HD.out
            refine ⟨j + 1, D.set s 0, by omega, by go_num, by simpa using hDl, hR.set s 0, hB.setCell (Nat.le_refl _) _, fun q hq => ?_, fun i' h1 h2 q h3 hq => ?_⟩
            · by_cases e : s = q
              · subst e; rw [List.getElem_set_self]; exact .inr ⟨rfl, hsm⟩
              · rw [List.getElem_set_ne e]; exact hD1 q _
            · by_cases e : s = q
              · subst e; rw [List.getElem_set_self]
              · rw [List.getElem_set_ne e]
                refine hD2 i' h1 ?_ q h3 _
                by_cases e2 : i' = j
                · subst e2
                  rw [hsx] at h3
                  omega
                · omega
          case measure => simp [intOf]; omega
        · have hjj : j = a.final.length := by omega
          subst hjj
          have hi2 : ¬ (a.final.length : Int) < a.final.length := by omega
          have hDI : DInv a k D := by
            refine ⟨hDl, fun q hq => ?_, fun q hq => ?_, fun q hq hq2 => ?_⟩
            · rcases hD1 q hq with h | h <;> omega
            · rcases hD1 q hq with h | h
              · exact .inl h
              · refine .inr ?_
                rw [h.1]
                exact .fin h.2
            · obtain ⟨i', hi', he⟩ := List.getElem_of_mem hq
              exact hD2 i' hi' hi' q he hq2
          clear hD1 hD2
          go_wp2
          go_loopw [7] (fun x wr => ∃ (D : List Int) (c : Nat), x = .int .i64 c ∧ c ≤ 1000000 ∧ Row wr w.heap.size D ∧ Below w.heap.size w wr ∧ DInv a k D ∧ (c = 0 → ∀ e ∈ a.edges, EdgeOk D e)) (fun x wr => 2 * rowSum wr w.heap.size + (if 0 < intOf x then 1 else 0))
          case atStart => exact ⟨D, 1, rfl, by decide, hR, hB, hDI, fun h => absurd h (by decide)⟩
          case round =>
            clear hDl hR hB hDI
            clear D
            obtain ⟨D, c, rfl, hc1, hR, hB, hDI, hE⟩ := hrel
            by_cases hc0 : c = 0
            · subst hc0
              have hDist : Dist a k D := ⟨hDI, fun e he => hE rfl e he⟩
              have HD := Lib.hid hDist
              have hlD := hDI.len
              clear hDI hE hDist
              go_wp2
              go_ret
              refine ⟨_, D, rfl, ?_, hB, HD.out⟩
              have h9 := hR.own (base := w.heap.size) (Nat.le_refl _) (by omega)
              rwa [hlD] at h9
            · have hi3 : (c : Int) > 0 := by omega
              have hc3 := (hB.cell (p := ⟨b, 3, none⟩) hlt).trans hq3
              have hsum := rowSum_eq hR
              have HE := Lib.hid hsum
              clear hE hsum
              go_wp2
              go_loopw [53, 7] (fun i x wz => ∃ (m : Nat) (D' : List Int) (c' : Nat), m ≤ a.edges.length ∧ i = .int .i64 m ∧ x = .int .i64 c' ∧ c' ≤ m ∧ Row wz w.heap.size D' ∧ Below w.heap.size w wz ∧ DInv a k D' ∧ sumD D' + c' ≤ sumD D ∧ (c' = 0 → ∀ j (h : j < a.edges.length), j < m → EdgeOk D' a.edges[j])) (fun i _ _ => a.edges.length - (intOf i).toNat)
              case atStart => exact ⟨0, D, 0, Nat.zero_le _, rfl, rfl, Nat.le_refl _, hR, hB, hDI, Nat.le_refl _, fun _ j _ h => absurd h (Nat.not_lt_zero j)⟩
              case round =>
                clear hR hB hDI hc3
                obtain ⟨m, D', c', hml, rfl, rfl, hcm, hR, hB, hDI, hsum, hE⟩ := hrel
                by_cases hlt4 : m < a.edges.length
                · obtain ⟨_, heb, _, hre⟩ := HF.out
                  obtain ⟨eb, eo, rfl, hebk, hec⟩ := hre (by omega)
                  obtain ⟨hcell0, hcell1, hcell2, hcell3, hcell4, hcell5, hcell6⟩ := cell7 hec hlt4
                  replace hcell0 := (hB.cell (p := ⟨eb, eo + m * 7, none⟩) hebk).trans hcell0
                  replace hcell1 := (hB.cell (p := ⟨eb, eo + m * 7 + 1, none⟩) hebk).trans hcell1
                  replace hcell2 := (hB.cell (p := ⟨eb, eo + m * 7 + 2, none⟩) hebk).trans hcell2
                  replace hcell3 := (hB.cell (p := ⟨eb, eo + m * 7 + 3, none⟩) hebk).trans hcell3
                  replace hcell4 := (hB.cell (p := ⟨eb, eo + m * 7 + 4, none⟩) hebk).trans hcell4
                  replace hcell5 := (hB.cell (p := ⟨eb, eo + m * 7 + 5, none⟩) hebk).trans hcell5
                  replace hcell6 := (hB.cell (p := ⟨eb, eo + m * 7 + 6, none⟩) hebk).trans hcell6
                  have hmem : a.edges[m] ∈ a.edges := List.getElem_mem hlt4
                  have hbd := heb _ hmem
                  obtain ⟨ed, hed⟩ : ∃ ed, a.edges[m] = ed := ⟨_, rfl⟩
                  rw [hed] at hcell0 hcell1 hcell2 hcell3 hcell4 hcell5 hcell6 hmem hbd
                  have HED := Lib.hid hed
                  obtain ⟨s, hs⟩ : ∃ s : Nat, ed.src = s := ⟨ed.src.toNat, by omega⟩
                  obtain ⟨t, ht⟩ : ∃ t : Nat, ed.dst = t := ⟨ed.dst.toNat, by omega⟩
                  have hlD := hDI.len
                  have hsl : s < D'.length := by omega
                  have htl : t < D'.length := by omega
                  rw [hs] at hcell0
                  rw [ht] at hcell1
                  obtain ⟨Wz, hWz⟩ : ∃ Wz, wr.alloc (.cells #[.int .i64 s, .int .i64 t, .bool ed.free, .int .u64 ed.set.w0.toNat, .int .u64 ed.set.w1.toNat, .int .u64 ed.set.w2.toNat, .int .u64 ed.set.w3.toNat] 55) = Wz := ⟨_, rfl⟩
                  have hBW : Below wr.heap.size wr Wz := hWz ▸ alloc1 wr _
                  have hn1 : ∀ j, Wz.cell? ⟨wr.heap.size, j, none⟩ = _ := fun j => hWz ▸ cell_new wr _ _ j
                  have e0 := hn1 0; have e1 := hn1 1; have e2 := hn1 2
                  simp only [List.getElem?_toArray, List.getElem?_cons_zero, List.getElem?_cons_succ] at e0 e1 e2
                  have hRz := hR.below hBW
                  have hcs := hRz.cell s hsl
                  have hct := hRz.cell t htl
                  have hfs := hRz.free s
                  have hbs := hDI.bound s hsl
                  have hbt := hDI.bound t htl
                  have hset := fun h => hDI.set hmem hs ht hsl htl h
                  have hsm := fun (x : Int) h0 h => sumD_set D' s x hsl h0 h
                  have hok : D'[s] ≤ D'[t] + cost ed → EdgeOk D' ed := by
                    intro h s' t' h1 h2 h3 h4
                    have e1 : s' = s := by omega
                    have e2 : t' = t := by omega
                    subst e1; subst e2
                    exact h
                  have hi5 : (m : Int) < a.edges.length := by omega
                  have hi6 : (s : Int) < k := by omega
                  have hi7 : (t : Int) < k := by omega
                  have hBz := hB.trans (hBW.mono hB.size)
                  have hco : cost ed = if ed.free then 0 else 1 := rfl
                  obtain ⟨D2, hD2⟩ : ∃ D2, D'.set s (D'[t] + cost ed) = D2 := ⟨_, rfl⟩
                  have hRs := hRz.set s (D'[t] + cost ed)
                  rw [hD2] at hRs hset
                  have hD2l : sumD (D'.set s (D'[t] + cost ed)) = sumD D2 := by rw [hD2]
                  generalize hdt : D'[t] = dt at *
                  generalize hds : D'[s] = ds at *
                  obtain ⟨fr, hfr⟩ : ∃ fr, ed.free = fr := ⟨_, rfl⟩
                  rw [hfr] at hcell2 hWz e2 hco
                  have HX := Lib.hid (And.intro hE (And.intro hsum (And.intro hcm (And.intro hDI (And.intro hset (And.intro hsm (And.intro hok (And.intro hD2l hR))))))))
                  clear hE hsum hDI hset hsm hok heb hre hec hmem hed hn1 hRz hlD hsl htl hD2 hD2l hdt hds hs ht hbd hR hfr hebk hB
                  cases fr with
                  | true =>
                    rw [if_pos rfl] at hco
                    rw [hco, Int.add_zero] at hRs
                    by_cases hlt5 : dt < ds
                    · go_wp2
                      go_roundw
                      case rel =>
                        obtain ⟨hE, hsum, hcm, hDI, hset, hsm, hok, hD2l, hR⟩ := HX.out
                        have h9 := hsm (dt + cost ed) (by omega) (by omega)
                        exact ⟨m + 1, D2, c' + 1, by omega, by go_num, by go_num, by omega, hRs, hBz.setCell (Nat.le_refl _) _, hset (by omega), by omega, fun h => absurd h (by omega)⟩
                      case measure => simp [intOf]; omega
                    · go_wp2
                      go_roundw
                      case rel =>
                        obtain ⟨hE, hsum, hcm, hDI, hset, hsm, hok, hD2l, hR⟩ := HX.out
                        refine ⟨m + 1, D', c', by omega, by go_num, rfl, by omega, hR.below hBW, hBz, hDI, hsum, fun h j hj hjm => ?_⟩
                        by_cases e : j = m
                        · subst e
                          rw [HED.out]
                          exact hok (by omega)
                        · exact hE h j hj (by omega)
                      case measure => simp [intOf]; omega
                  | false =>
                    rw [if_neg (by decide)] at hco
                    rw [hco] at hRs
                    by_cases hlt5 : dt + 1 < ds
                    · go_wp2
                      go_roundw
                      case rel =>
                        obtain ⟨hE, hsum, hcm, hDI, hset, hsm, hok, hD2l, hR⟩ := HX.out
                        have h9 := hsm (dt + cost ed) (by omega) (by omega)
                        exact ⟨m + 1, D2, c' + 1, by omega, by go_num, by go_num, by omega, hRs, hBz.setCell (Nat.le_refl _) _, hset (by omega), by omega, fun h => absurd h (by omega)⟩
                      case measure => simp [intOf]; omega
                    · go_wp2
                      go_roundw
                      case rel =>
                        obtain ⟨hE, hsum, hcm, hDI, hset, hsm, hok, hD2l, hR⟩ := HX.out
                        refine ⟨m + 1, D', c', by omega, by go_num, rfl, by omega, hR.below hBW, hBz, hDI, hsum, fun h j hj hjm => ?_⟩
                        by_cases e : j = m
                        · subst e
                          rw [HED.out]
                          exact hok (by omega)
                        · exact hE h j hj (by omega)
                      case measure => simp [intOf]; omega
                · have hmm : m = a.edges.length := by omega
                  subst hmm
                  have hi5 : ¬ (a.edges.length : Int) < a.edges.length := by omega
                  have hnew := rowSum_eq hR
                  have HX := Lib.hid (And.intro hE (And.intro hsum (And.intro hcm (And.intro hDI (And.intro hR (And.intro hB hnew))))))
                  clear hE hsum hDI hR hB hnew
                  go_wp2
                  go_roundw
                  case rel =>
                    obtain ⟨hE, hsum, hcm, hDI, hR, hB, hnew⟩ := HX.out
                    refine ⟨D', c', rfl, by omega, hR, hB, hDI, fun h e he => ?_⟩
                    obtain ⟨j, hj, rfl⟩ := List.getElem_of_mem he
                    exact hE h j hj hj
                  case measure =>
                    obtain ⟨hE, hsum, hcm, hDI, hR, hB, hnew⟩ := HX.out
                    have hold := HE.out
                    have hcp : 0 < c := by omega
                    simp only [intOf, hold, hnew, Array.getD_eq_getD_getElem?]
                    by_cases hz : c' = 0
                    · subst hz
                      simp [hcp]
                      omega
                    · have hcp' : 0 < c' := by omega
                      simp [hcp, hcp']
                      omega
end Go.Proofs.Ytakldmbbmefnbaa
