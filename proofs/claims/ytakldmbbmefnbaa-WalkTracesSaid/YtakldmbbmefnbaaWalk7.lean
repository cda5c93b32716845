/- walk: a run along a word. -/
import Derived.Test.YtakldmbbmefnbaaRowrows
namespace Go.Proofs.Ytakldmbbmefnbaa
open Go.RowKit Go.Sort Go.Proofs
set_option maxRecDepth 100000
set_option maxHeartbeats 400000

/-- To where a word leads. -/
noncomputable def A.after (a : A) (word : List UInt8) : List Int := word.foldl (fun l b => a.step l b.toNat) (a.clo a.start)
/-- The run along a word. -/
noncomputable def A.trace (a : A) (word : List UInt8) (k : Nat) : List (List Int) := (List.range (k + 1)).map (fun i => a.after (word.take i))
theorem A.trace_len (a : A) (word : List UInt8) (k : Nat) : (a.trace word k).length = k + 1 := by simp [A.trace]
theorem A.trace_get (a : A) (word : List UInt8) (k i : Nat) (h : i < (a.trace word k).length) : (a.trace word k)[i] = a.after (word.take i) := by simp [A.trace]
theorem A.trace_zero (a : A) (word : List UInt8) : a.trace word 0 = [a.clo a.start] := rfl
theorem A.trace_succ (a : A) (word : List UInt8) (k : Nat) (h : k < word.length) : a.trace word (k + 1) = a.trace word k ++ [a.step (a.after (word.take k)) word[k].toNat] := by
  unfold A.trace
  rw [List.range_succ, List.map_append]
  congr 1
  show [a.after (word.take (k + 1))] = _
  rw [List.take_succ_eq_append_getElem h]
  unfold A.after
  rw [List.foldl_append]
  rfl
theorem A.after_in {a : A} (ha : Fit a) (word : List UInt8) : (a.after word).all (inB a.states) = true ∧ (a.after word).length ≤ 1000 := by
  unfold A.after
  rcases List.eq_nil_or_concat word with rfl | ⟨l, x, rfl⟩
  · exact ⟨A.clo_in ha _, A.clo_len ha _⟩
  · rw [List.concat_eq_append, List.foldl_append]
    exact ⟨A.clo_in ha _, A.clo_len ha _⟩

theorem Own.at_R {e : TypeId} {w : World} {base : Nat} {v : Value} {xs : List Ro} (h : Own encR 1 e w base v xs) (h0 : 0 < xs.length) : ∃ b c, v = .slice (some ⟨b, 0, none⟩) xs.length c ∧ blk v = some b ∧ ∀ k (h : k < xs.length), w.cell? ⟨b, k, none⟩ = some (vR xs[k]) := by
  rcases h with ⟨rfl, _⟩ | ⟨b, cap, cur, rfl, hb, hp, h1, h2, hg, hs, ht⟩
  · exact absurd h0 (Nat.lt_irrefl 0)
  · refine ⟨b, cap, rfl, by obtain ⟨m, rfl⟩ : ∃ m, cap = m + 1 := ⟨cap - 1, by omega⟩; rfl, fun k hk => ?_⟩
    rw [cell_at hg k, ← Array.getElem?_toList]
    have h3 := flatMap_get encR_len xs k xs[k] 0 (vR xs[k]) (List.getElem?_eq_getElem hk) rfl
    rw [← ht, Nat.mul_one, Nat.add_zero, List.getElem?_take_of_lt (by omega), Nat.mul_one] at h3
    exact h3

theorem info_ro : (Try.prog.info? 22).map (fun i => (i.zero, i.size, i.bytes)) = some (some (.slice none 0 0), 1, 24) := info_ints

theorem trace_ok (b : Nat) (a : A) (vs vf ve : Value) (word : List UInt8) (w : World) (hk : Wk w b a vs vf ve) (ha : Fit a) (hw : word.length ≤ 1000000) :
    Calls Try.prog 51 #[pw b, encStr word] w (fun r w' => ∃ v rs, r = .returned v ∧ Own encR 1 22 w' w.heap.size v rs ∧ Rws w' w.heap.size rs (a.trace word word.length) ∧ Below w.heap.size w w') := by
  obtain ⟨i0, hi, hz0, hz1, hz2⟩ := info_parts info_ro
  have hc := closure_ok b a vs vf ve vs a.start w hk ha hk.fa.s (by have := ha.ok; simp only [A.ok, Bool.and_eq_true] at this; exact this.1.1.2) ha.s
  have hq1 := hk.c1
  obtain ⟨A0, c, rfl, _⟩ := id hk.fa.s
  go_enter Try.func51, Try.ntmps51
  go_wp2_with (go_at_call 85; refine hc.mono ?_; rintro e W1 ⟨v1, rfl, ho1, d1⟩; obtain ⟨A1, c1, rfl, hle1⟩ := ho1.form; obtain ⟨W2, hW2⟩ : ∃ W2, W1.alloc (.cells #[.slice A1 (a.clo a.start).length c1] 22) = W2 := ⟨_, rfl⟩; obtain ⟨cc, W3, hconv, d3, z3, hbytes, hcc⟩ := conv_bytes W2 word)
  have z2 : W2.heap.size = W1.heap.size + 1 := by rw [← hW2]; simp
  have d2 : Below W1.heap.size W1 W2 := hW2 ▸ alloc1 W1 _
  have o0 : Own encR 1 22 W2 w.heap.size (.slice (some ⟨W1.heap.size, 0, none⟩) 1 1) [(A1, (a.clo a.start).length, c1)] := by
    refine .inr ⟨W1.heap.size, 1, _, rfl, d1.size, by decide, by simp, by decide, by rw [← hW2]; exact heap_alloc_new W1 _, by simp, rfl⟩
  have r0 : Rws W2 w.heap.size [(A1, (a.clo a.start).length, c1)] (a.trace word 0) := by
    rw [A.trace_zero]
    exact (Rws.nil _ _).add (rs := []) (ls := []) (ho1.below d2)
  have dw2 := below_next d1 d2
  have dw3 := below_next dw2 d3
  have hbl : w.heap.size ≤ W2.heap.size := dw2.size
  have HZ := Lib.hid (And.intro z2 (And.intro z3 hbl))
  have o0 := o0.below d3
  have r0 := r0.below d3
  have hbv0 : blk (.slice (some ⟨W1.heap.size, 0, none⟩) 1 1) ≠ some W2.heap.size := by simp [blk]; omega
  clear hW2 d1 d2 d3 ho1 z2 z3 hbl hconv hc hq1 dw2
  go_loopw [22, 6] (fun i v wr => ∃ (k : Nat) (rs : List Ro), k ≤ word.length ∧ i = .int .i64 k ∧ Own encR 1 22 wr w.heap.size v rs ∧ Rws wr w.heap.size rs (a.trace word k) ∧ Below w.heap.size w wr ∧ blk v ≠ some W2.heap.size ∧ (∀ j (h : j < word.length), wr.cell? ⟨W2.heap.size, j, none⟩ = some (.int .u8 word[j].toNat))) (fun i _ _ => word.length - (intOf i).toNat)
  case atStart => exact ⟨0, _, Nat.zero_le _, rfl, o0, r0, dw3, hbv0, hbytes⟩
  case round =>
    obtain ⟨k, rs, hkl, rfl, hv, hrs, hB, hbv, hby⟩ := hrel
    have hlen : rs.length = k + 1 := by rw [hrs.1, A.trace_len]
    obtain ⟨bo, cv, rfl, hblk, hcells⟩ := hv.at_R (by omega)
    by_cases hlt : k < word.length
    · have hlast := hrs.2 k (by omega) (by rw [A.trace_len]; omega)
      rw [A.trace_get] at hlast
      have hcell := hcells k (by omega)
      have hbyte := hby k hlt
      obtain ⟨hin, hln⟩ := A.after_in ha (word.take k)
      have hst := step_ok b a _ vf ve _ _ (word[k].toNat) wr (hk.below hB) ha (hlast.sl encI_len) hin (by omega) (UInt8.toNat_lt _)
      obtain ⟨A5, c5, hr5, hle5⟩ := hlast.form
      obtain ⟨⟨ra, rn, rc⟩, hrk⟩ : ∃ r, rs[k] = r := ⟨_, rfl⟩
      rw [hrk] at hcell hr5 hst
      simp only [vR] at hcell hr5 hst
      injection hr5 with h51 h52 h53
      have hnx := A.trace_succ a word k hlt
      generalize a.after (word.take k) = cur at *
      generalize a.clo a.start = st0 at *
      generalize a.step cur word[k].toNat = nxt at *
      generalize hy : word[k].toNat = y at *
      have HX := Lib.hid (And.intro hrs (And.intro hnx (And.intro hby hlen)))
      rw [hlen] at hv hblk hbv ⊢
      have hy256 : y < 256 := hy ▸ UInt8.toNat_lt _
      have hi1 : (k : Int) < word.length := by omega
      have hbyt : (4 * (rs.length + 1) + 4096) * 24 ≤ 140737488355328 := by rw [HX.out.2.2.2]; omega
      have hwl2 : rs.length + 1 ≤ 4611686018427387904 := by rw [HX.out.2.2.2]; omega
      have hbs := hB.size
      subst h51; subst h52; subst h53
      clear hrs hnx hby hlast hcells hln hin hrk hk hlen r0 o0 hbytes hy hbv0
      go_wp2_with first
        | (go_at_call 60; refine hst.mono ?_; rintro e w2 ⟨v2, rfl, ho2, d2⟩; obtain ⟨A2, c2, rfl, hle2⟩ := ho2.form)
        | (at_builtin; go_loud (refine wpList_append_my _ rfl (.tmp 26) (.tmp 36) 40 rfl encR_len encR_one 22 i0 _ Try.underlying40 hi hz0 hz1 hz2 rfl (by decide) (base := w.heap.size) rfl (xs := rs) (hv.below (below_next d2 (alloc1 w2 _))) rfl (ys := [(A2, nxt.length, c2)]) (Sl_one (enc := encR) (size := 1) w2 (A2, nxt.length, c2) _ _) hbyt hwl2 (Nat.le_trans hbs (Nat.le_trans d2.size (alloc1 w2 _).size)) ?_); intro v3 w3 ho3 hg3 hb3 hl3; obtain ⟨A3, c3, rfl, hle3⟩ := ho3.form)
      have hba : Below wr.heap.size wr (w2.alloc (.cells #[.slice A2 nxt.length c2] 22)) := below_next d2 (alloc1 w2 _)
      have hvA := hv.below hba
      go_roundw
      case rel =>
        refine ⟨k + 1, rs ++ [(A2, nxt.length, c2)], by omega, by go_num, by simpa using ho3, ?_, (hB.trans (hba.mono hbs)).trans hl3, ?_, fun j hj => ?_⟩
        · rw [HX.out.2.1]
          refine Rws.grown ?_ hg3 (own_row hvA)
          exact (HX.out.1.below hba).add ((ho2.below (alloc1 w2 _)).lower hbs)
        · intro e
          have e' : blk (Value.slice A3 (rs ++ [(A2, nxt.length, c2)]).length c3) = some W2.heap.size := by simpa using e
          rcases hb3 with h | h | h
          · have h9 : blk (Value.slice A3 (rs ++ [(A2, nxt.length, c2)]).length c3) = blk (Value.slice (some ⟨bo, 0, none⟩) (k + 1) cv) := h
            exact hbv (h9 ▸ e')
          · rw [h] at e'
            have hlt9 := World.block_lt_of_cell? _ _ hbyte
            have := hba.size
            injection e' with e'
            simp only at hlt9
            omega
          · rw [h] at e'
            cases e'
        · have h8 := HX.out.2.2.1 j hj
          have h9 := (hba.cell (p := ⟨W2.heap.size, j, none⟩) (World.block_lt_of_cell? _ _ h8)).trans h8
          refine (World.cell?_of_block (hg3.block W2.heap.size (World.block_lt_of_cell? _ _ h9) (fun e => hbv e.symm))).trans h9
      case measure => simp [intOf]; omega
    · have hkk : k = word.length := by omega
      subst hkk
      have hi1 : ¬ (word.length : Int) < word.length := by omega
      clear hcells hby hk hbytes r0 o0 hbv0
      have hv2 := hv
      rw [hlen] at hv2
      have HX := Lib.hid hrs
      clear hrs
      go_wp2
      go_ret
      exact ⟨_, rfl, rs, hv2, HX.out, hB⟩
end Go.Proofs.Ytakldmbbmefnbaa
