/- the statement WalkTraces: the walk. -/
import Derived.Test.YtakldmbbmefnbaaWTr1
namespace Go.Proofs.Ytakldmbbmefnbaa
open Go.RowKit Go.Sort Go.Proofs
set_option maxRecDepth 100000
set_option maxHeartbeats 1000000

theorem walkTraces_bad (a : A) (As Af Ae : Option Addr) (cs cf ce : Nat) (v0 w0 : List UInt8) (w : World) (hfa : FaAt w w.heap.size a (.slice As a.start.length cs) (.slice Af a.final.length cf) (.slice Ae a.edges.length ce))
    (h1 : a.start.length ≤ cs) (h2 : a.final.length ≤ cf) (h3 : a.edges.length ≤ ce) (h4 : cs ≤ maxLen) (h5 : cf ≤ maxLen) (h6 : ce ≤ maxLen) (hv0 : v0.length ≤ maxLen) (hw0 : w0.length ≤ maxLen) (hok : a.few.ok = false) :
    Calls Try.prog 4 #[vA a (.slice As a.start.length cs) (.slice Af a.final.length cf) (.slice Ae a.edges.length ce), encStr v0, encStr w0] w (fun r w' => r = .returned (.bool true) ∧ Below w.heap.size w w') := by
  obtain ⟨W1, hW1⟩ : ∃ W1, w.alloc (.cells #[.int .i64 a.states, .slice As a.start.length cs, .slice Af a.final.length cf, .slice Ae a.edges.length ce] 25) = W1 := ⟨_, rfl⟩
  have d1 : Below w.heap.size w W1 := hW1 ▸ alloc1 w _
  have b1 : W1.heap[w.heap.size]? = some (.cells #[.int .i64 a.states, .slice As a.start.length cs, .slice Af a.final.length cf, .slice Ae a.edges.length ce] 25 (0, 0)) := by rw [← hW1]; exact heap_alloc_new w _
  have hfew := fun W (h : Below w.heap.size w W) => few_ok a As Af Ae cs cf ce W (hfa.below h h.size) h1 h2 h3 h4 h5 h6
  have hsm := a.few_small
  have htr := fun vs vf ve word W h => trace_bad a.few vs vf ve word W h hsm hok
  obtain ⟨v, hv⟩ : ∃ y, y = v0.take 8 := ⟨_, rfl⟩
  have hx8 : (ByteArray.mk v0.toArray).extract 0 (min (v0.length : Int) 8).toNat = ⟨v.toArray⟩ := by rw [hv]; exact cut8 v0
  have hvl : v.length ≤ 8 := by rw [hv, List.length_take]; omega
  obtain ⟨u, hu⟩ : ∃ y, y = w0.take 8 := ⟨_, rfl⟩
  have hy8 : (ByteArray.mk w0.toArray).extract 0 (min (w0.length : Int) 8).toNat = ⟨u.toArray⟩ := by rw [hu]; exact cut8 w0
  have hul : u.length ≤ 8 := by rw [hu, List.length_take]; omega
  obtain ⟨x, hx⟩ : ∃ x, x = v ++ u := ⟨_, rfl⟩
  have hcat : (ByteArray.mk v.toArray) ++ (ByteArray.mk u.toArray) = ⟨x.toArray⟩ := by rw [hx]; exact cat_two v u
  have hxl : x.length ≤ 16 := by rw [hx, List.length_append]; omega
  unfold vA at hfew htr ⊢
  unfold maxLen at hv0 hw0
  generalize a.few = a' at *
  clear h1 h2 h3 h4 h5 h6 hfa hok hv hu hx hsm
  go_enter Try.func4, Try.ntmps4
  go_wp2_with fail
  refine (wakes_ok _).mono ?_
  rintro e w2 ⟨rfl, d2⟩
  obtain ⟨q0, q1, q2, q3⟩ := four (keepb b1 d2)
  go_wp2_with fail
  refine (hfew _ (below_next d1 d2)).mono ?_
  rintro e w3 ⟨⟨vs, vf, ve, rfl, o1, o2, o3⟩, d3⟩
  obtain ⟨A1, n1, c1, rfl⟩ := o1.any
  obtain ⟨A2, n2, c2, rfl⟩ := o2.any
  obtain ⟨A3, n3, c3, rfl⟩ := o3.any
  have h5 := in5_new w3 a' _ _ _ o1 o2 o3
  have D5 := below_next (below_next (below_next d1 d2) d3) (alloc1 w3 (.cells #[.int .i64 a'.states, .slice A1 n1 c1, .slice A2 n2 c2, .slice A3 n3 c3] 25))
  clear d1 d2 d3 o1 o2 o3 q0 q1 q2 q3 b1 hW1 hfew
  go_wp2_with fail
  go_quiet (fail)
  go_wp2_with fail
  obtain ⟨W6, hW6⟩ : ∃ W6, (w3.alloc (.cells #[.int .i64 a'.states, .slice A1 n1 c1, .slice A2 n2 c2, .slice A3 n3 c3] 25)).drewN nq = W6 := ⟨_, rfl⟩
  have d6 := drewN_next (w3.alloc (.cells #[.int .i64 a'.states, .slice A1 n1 c1, .slice A2 n2 c2, .slice A3 n3 c3] 25)) nq
  rw [hW6] at d6
  rw [hW6]
  replace h5 := h5.next d6
  replace D5 := below_next D5 d6
  clear d6 hW6 hcat hx8 hy8
  refine (htr _ _ _ x W6 h5.fa (by omega)).mono ?_
  rintro e w6 ⟨rfl, d6⟩
  replace h5 := h5.next d6
  replace D5 := below_next D5 d6
  clear d6
  obtain ⟨q0, q1, q2, q3⟩ := four h5.h
  go_wp2_with fail
  refine (htr _ _ _ v w6 h5.fa (by omega)).mono ?_
  rintro e w7 ⟨rfl, d7⟩
  clear h5 q0 q1 q2 q3 htr
  go_wp2_with fail
  go_ret
  exact ⟨rfl, below_next D5 d7⟩
theorem walkTraces_good (a : A) (As Af Ae : Option Addr) (cs cf ce : Nat) (v0 w0 : List UInt8) (w : World) (hfa : FaAt w w.heap.size a (.slice As a.start.length cs) (.slice Af a.final.length cf) (.slice Ae a.edges.length ce))
    (h1 : a.start.length ≤ cs) (h2 : a.final.length ≤ cf) (h3 : a.edges.length ≤ ce) (h4 : cs ≤ maxLen) (h5 : cf ≤ maxLen) (h6 : ce ≤ maxLen) (hv0 : v0.length ≤ maxLen) (hw0 : w0.length ≤ maxLen) (hok : a.few.ok = true) :
    Calls Try.prog 4 #[vA a (.slice As a.start.length cs) (.slice Af a.final.length cf) (.slice Ae a.edges.length ce), encStr v0, encStr w0] w (fun r w' => r = .returned (.bool true) ∧ Below w.heap.size w w') := by
  obtain ⟨W1, hW1⟩ : ∃ W1, w.alloc (.cells #[.int .i64 a.states, .slice As a.start.length cs, .slice Af a.final.length cf, .slice Ae a.edges.length ce] 25) = W1 := ⟨_, rfl⟩
  have d1 : Below w.heap.size w W1 := hW1 ▸ alloc1 w _
  have b1 : W1.heap[w.heap.size]? = some (.cells #[.int .i64 a.states, .slice As a.start.length cs, .slice Af a.final.length cf, .slice Ae a.edges.length ce] 25 (0, 0)) := by rw [← hW1]; exact heap_alloc_new w _
  have hfew := fun W (h : Below w.heap.size w W) => few_ok a As Af Ae cs cf ce W (hfa.below h h.size) h1 h2 h3 h4 h5 h6
  have hsm := a.few_small
  have hfit := hsm.fit hok
  have hst : a.few.start.all (inB a.few.states) = true := hfit.start
  have htr := fun vs vf ve word W h => trace_got a.few vs vf ve word W h hsm hok
  have hrc := fun vs vf ve vl W h hl => reach_got a.few vs vf ve vl a.few.start W h hsm hok hl hfit.s hst
  have hsp := fun vs vf ve vl l b hb W h hl hll hin => step_got a.few vs vf ve vl l b hb W h hsm hok hl hll hin
  have hrl : (a.few.reach a.few.start).length ≤ 1000000 := by
    have := cl_len a.few.states.toNat (a.few.pairs false (fun _ => true)) a.few.start
    have := hfit.n
    unfold A.reach; omega
  clear hst
  obtain ⟨v, hv⟩ : ∃ y, y = v0.take 8 := ⟨_, rfl⟩
  have hx8 : (ByteArray.mk v0.toArray).extract 0 (min (v0.length : Int) 8).toNat = ⟨v.toArray⟩ := by rw [hv]; exact cut8 v0
  have hvl : v.length ≤ 8 := by rw [hv, List.length_take]; omega
  obtain ⟨u, hu⟩ : ∃ y, y = w0.take 8 := ⟨_, rfl⟩
  have hy8 : (ByteArray.mk w0.toArray).extract 0 (min (w0.length : Int) 8).toNat = ⟨u.toArray⟩ := by rw [hu]; exact cut8 w0
  have hul : u.length ≤ 8 := by rw [hu, List.length_take]; omega
  obtain ⟨x, hx⟩ : ∃ x, x = v ++ u := ⟨_, rfl⟩
  have hcat : (ByteArray.mk v.toArray) ++ (ByteArray.mk u.toArray) = ⟨x.toArray⟩ := by rw [hx]; exact cat_two v u
  have hxl : x.length ≤ 16 := by rw [hx, List.length_append]; omega
  unfold vA at hfew htr hrc hsp ⊢
  unfold maxLen at hv0 hw0
  generalize a.few = a' at *
  have HX := Lib.hid hx
  clear h1 h2 h3 h4 h5 h6 hfa hok hv hu hx hsm
  go_enter Try.func4, Try.ntmps4
  go_wp2_with fail
  refine (wakes_ok _).mono ?_
  rintro e w2 ⟨rfl, d2⟩
  obtain ⟨q0, q1, q2, q3⟩ := four (keepb b1 d2)
  go_wp2_with fail
  refine (hfew _ (below_next d1 d2)).mono ?_
  rintro e w3 ⟨⟨vs, vf, ve, rfl, o1, o2, o3⟩, d3⟩
  obtain ⟨A1, n1, c1, rfl⟩ := o1.any
  obtain ⟨A2, n2, c2, rfl⟩ := o2.any
  obtain ⟨A3, n3, c3, rfl⟩ := o3.any
  have h5 := in5_new w3 a' _ _ _ o1 o2 o3
  have D5 := below_next (below_next (below_next d1 d2) d3) (alloc1 w3 (.cells #[.int .i64 a'.states, .slice A1 n1 c1, .slice A2 n2 c2, .slice A3 n3 c3] 25))
  clear d1 d2 d3 o1 o2 o3 q0 q1 q2 q3 b1 hW1 hfew
  go_wp2_with fail
  go_quiet (fail)
  go_wp2_with fail
  obtain ⟨W6, hW6⟩ : ∃ W6, (w3.alloc (.cells #[.int .i64 a'.states, .slice A1 n1 c1, .slice A2 n2 c2, .slice A3 n3 c3] 25)).drewN nq = W6 := ⟨_, rfl⟩
  have d6 := drewN_next (w3.alloc (.cells #[.int .i64 a'.states, .slice A1 n1 c1, .slice A2 n2 c2, .slice A3 n3 c3] 25)) nq
  rw [hW6] at d6
  rw [hW6]
  replace h5 := h5.next d6
  replace D5 := below_next D5 d6
  clear d6 hW6 hcat hx8 hy8
  refine (htr _ _ _ x W6 h5.fa (by omega)).mono ?_
  rintro e w6 ⟨⟨bx, cx, rfl, tx⟩, d6⟩
  replace h5 := h5.next d6
  replace D5 := below_next D5 d6
  clear d6
  obtain ⟨q0, q1, q2, q3⟩ := four h5.h
  go_wp2_with fail
  refine (htr _ _ _ v w6 h5.fa (by omega)).mono ?_
  rintro e w7 ⟨⟨bv, cv, rfl, tv⟩, d7⟩
  replace h5 := h5.next d7
  replace D5 := below_next D5 d7
  replace tx := tx.next d7
  clear q0 q1 q2 q3 d7 htr
  obtain ⟨q0, q1, q2, q3⟩ := four h5.h
  go_wp2_with fail
  refine (hrc _ _ _ _ w7 h5.fa h5.fa.s).mono ?_
  rintro e w8 ⟨⟨A8, c8, rfl, hr8⟩, d8⟩
  obtain ⟨W9, hW9⟩ : ∃ W9, w8.alloc (.cells #[.slice A8 (a'.reach a'.start).length c8] 22) = W9 := ⟨_, rfl⟩
  have d9 : Below w8.heap.size w8 W9 := hW9 ▸ alloc1 w8 _
  have p9 : W9.heap[w8.heap.size]? = some (.cells #[.slice A8 (a'.reach a'.start).length c8] 22 (0, 0)) := by rw [← hW9]; exact heap_alloc_new w8 _
  replace hr8 := hr8.below d9 d9.size
  replace d8 := below_next d8 d9
  replace h5 := h5.next d8
  replace D5 := below_next D5 d8
  replace tx := tx.next d8
  replace tv := tv.next d8
  clear q0 q1 q2 q3 d8 d9 hrc
  have hxv : x.length = v.length + u.length := by rw [HX.out, List.length_append]
  have hcm : ((x.length : Int) + 1) = (v.length : Int) + (u.length : Int) + 1 := by omega
  have hne : ((x.length : Int) + 1 != (v.length : Int) + (u.length : Int) + 1) = false := by rw [bne_eq_false_iff_eq]; exact hcm
  have HXV := Lib.hid hxv
  clear hxv hcm
  go_wp2_with fail
  have hlv := a'.trace_len v v.length
  have hlx := a'.trace_len x x.length
  have HL := Lib.hid (And.intro hlv hlx)
  clear hlv hlx hne
  go_loopw [96] (fun i wr => ∃ k : Nat, k ≤ v.length + 1 ∧ i = .int .i64 k ∧ Below W9.heap.size W9 wr) (fun i _ => v.length + 1 - (intOf i).toNat)
  case atStart => exact ⟨0, Nat.zero_le _, rfl, Below.refl _ _⟩
  case round =>
    obtain ⟨k, hk, rfl, hb⟩ := hrel
    have hxv := HXV.out
    by_cases hlt : k < v.length + 1
    · have hkx : k < x.length + 1 := by omega
      obtain ⟨Av, nv, cv', ev, iv⟩ := (tv.next hb).at_ k (by rw [HL.out.1]; omega)
      obtain ⟨Ax, nx, cx', ex, ix⟩ := (tx.next hb).at_ k (by rw [HL.out.2]; omega)
      have heq := same_eq _ _ _ _ wr iv ix (by have := A.trace_get a' v v.length k (by rw [HL.out.1]; omega); rw [this]; exact Nat.le_trans (A.after_in hfit _).2 (by decide)) (by
        have hX := HX.out
        subst hX
        exact trace_head a' v u k (by omega) _ _)
      have HV := Lib.hid hxv
      clear hxv iv ix tv tx hsp hr8
      go_wp2_with fail
      refine heq.mono ?_
      rintro e w10 ⟨rfl, d10⟩
      go_wp2_with fail
      go_roundw
      case rel => exact ⟨k + 1, by omega, by go_num, below_next hb d10⟩
      case measure => simp [intOf]; omega
    · have hkv : k = v.length + 1 := by omega
      have HV := Lib.hid hxv
      clear hxv
      obtain ⟨Av, nv, cv', ev, iv⟩ := (tv.next hb).at_ v.length (by rw [HL.out.1]; omega)
      have hav : (a'.trace v v.length)[v.length]'(by rw [HL.out.1]; omega) = a'.after (v ++ u.take 0) := by
        rw [A.trace_get]; simp
      rw [hav] at iv
      obtain ⟨wr0, hwr0⟩ : ∃ wr0, wr0 = wr := ⟨_, rfl⟩
      subst hwr0
      obtain ⟨cc, Wc, hconv, dc, zc, hby, hcc⟩ := conv_bytes wr0 u
      have HK := Lib.hid (And.intro hkv (And.intro hav zc))
      clear hkv zc hav
      have hvlt : v.length < v.length + 1 := by omega
      go_wp2_with fail
      replace tx := (tx.next hb).next dc
      replace iv := iv.below dc dc.size
      replace hr8 := (hr8.below hb hb.size).below dc dc.size
      replace p9 := keepb (keepb p9 hb) dc
      replace h5 := (h5.next hb).next dc
      replace D5 := below_next (below_next D5 hb) dc
      clear tv ev hconv dc hb hW9
      have hby2 : ∀ k, (h : k < u.length) → ∀ wr, Below Wc.heap.size Wc wr → wr.cell? ⟨wr0.heap.size, k, none⟩ = some (.int .u8 u[k].toNat) := by
        intro k h wr hb
        exact (hb.cell (p := ⟨wr0.heap.size, k, none⟩) (World.block_lt_of_cell? _ _ (hby k h))).trans (hby k h)
      clear hby
      have HB := Lib.hid hby2
      clear hby2
      go_loopw [117, 16] (fun i at_ wr => ∃ (k : Nat) (A : Option Addr) (n c : Nat), k ≤ u.length ∧ i = .int .i64 k ∧ at_ = .slice A n c ∧ Ints wr wr.heap.size (.slice A n c) (a'.after (v ++ u.take k)) ∧ Below Wc.heap.size Wc wr) (fun i _ _ => u.length - (intOf i).toNat)
      case atStart => exact ⟨0, _, _, _, Nat.zero_le _, rfl, rfl, iv, Below.refl _ _⟩
      case round =>
        obtain ⟨k, A0, n0, c0, hk, rfl, rfl, hat, hb⟩ := hrel
        by_cases hlt : k < u.length
        · have hcu := HB.out k hlt wr hb
          have hu256 : u[k].toNat < 256 := u[k].toNat_lt
          have hin := A.after_in hfit (v ++ u.take k)
          have hs2 := hsp _ _ _ _ _ _ hu256 wr (h5.next hb).fa hat (Nat.le_trans hin.2 (by decide)) hin.1
          obtain ⟨Ax, nx, cx', ex, ix⟩ := (tx.next hb).at_ (v.length + 1 + k) (by rw [HL.out.2]; have := HV.out; omega)
          have hst : a'.step (a'.after (v ++ u.take k)) u[k].toNat = (a'.trace x x.length)[v.length + 1 + k]'(by rw [HL.out.2]; have := HV.out; omega) := by
            have hX := HX.out
            subst hX
            exact trace_tail a' v u k hlt _
          have hst2 : a'.step (a'.after (v ++ u.take k)) u[k].toNat = a'.after (v ++ u.take (k + 1)) := by
            rw [← after_snoc, List.append_assoc, List.take_succ_eq_append_getElem hlt]
          rw [hst2] at hst hs2
          rw [← hst] at ix
          have hout : (a'.after (v ++ u.take (k + 1))).any (fun s => !(a'.reach a'.start).any (fun x => s == x)) = false := none_out (fun s hs => after_reach hfit _ hs)
          have hlen := (A.after_in hfit (v ++ u.take (k + 1))).2
          have hkx : v.length + 1 + k < x.length + 1 := by have := HV.out; omega
          obtain ⟨q0, q1, q2, q3⟩ := four (h5.next hb).h
          have p10 := keepb p9 hb
          have r10 := hr8.below hb hb.size
          generalize hnx : a'.after (v ++ u.take (k + 1)) = nxt at *
          have HN := Lib.hid hnx
          clear hnx
          generalize u[k].toNat = bt at *
          have HO := Lib.hid hout
          clear hat hin hst hst2 hsp hout HB iv tx hr8 p9 h5
          go_wp2_with fail
          refine hs2.mono ?_
          rintro e w10 ⟨⟨A9, c9, rfl, i9⟩, d10⟩
          replace ix := ix.below d10 d10.size
          replace p10 := keepb p10 d10
          replace r10 := r10.below d10 d10.size
          have heq := same_eq _ _ _ _ w10 i9 ix (by omega) rfl
          have ex2 := (d10.cell (p := ⟨bx, v.length + 1 + k, none⟩) (World.block_lt_of_cell? _ _ ex)).trans ex
          clear ix ex hs2
          go_wp2_with fail
          refine heq.mono ?_
          rintro e w11 ⟨rfl, d11⟩
          have p11 := keepb p10 d11
          have hpr := traces_pred w8.heap.size _ (a'.reach a'.start) w11 (cell_at p11 0) (r10.below d11 d11.size) hrl
          have hcf := containsFunc_int _ _ nxt (fun _ => True) _ w11 (i9.below d11 d11.size) hpr (fun _ _ => trivial) (by omega)
          rw [HO.out] at hcf
          clear hpr p10 p11 r10 heq
          go_wp2_with fail
          refine hcf.mono ?_
          rintro e w12 ⟨rfl, d12⟩
          go_wp2_with fail
          go_roundw
          case rel => exact ⟨k + 1, _, _, _, by omega, by go_num, rfl, by rw [HN.out]; exact ((i9.below d11 d11.size).below d12 d12.size), below_next (below_next (below_next hb d10) d11) d12⟩
          case measure => simp [intOf]; omega
        · clear HB
          go_wp2_with fail
          go_ret
          exact ⟨rfl, below_next D5 hb⟩
end Go.Proofs.Ytakldmbbmefnbaa
