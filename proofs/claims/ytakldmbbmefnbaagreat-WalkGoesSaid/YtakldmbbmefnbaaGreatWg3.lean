/- What the statement leans on, part 3: texts joined into one. -/
import Derived.Test.YtakldmbbmefnbaaGreatWg2
import Derived.Test.YtakldmbbmefnbaaGreatProg
import Derived.ChangeKeysEq
import Derived.Laws.StructEq
import Derived.ProofKit
import Derived.OpenShut
import Derived.Lib.SmallJoins
import Derived.Deep.Slices
import Derived.Sort.EncStr
import Derived.ShutString
import Derived.ChangeOld
import Derived.Below
/- the reference's words: Reach, Live. -/
namespace Go.Proofs.YtakldmbbmefnbaaGreat
open Go.RowKit Go.Sort Go.Proofs
set_option maxRecDepth 100000
set_option maxHeartbeats 1000000

theorem rreach_ok (back : Bool) (a : A) (vs vf ve vl : Value) (l : List Int) (w : World) (hfa : FaAt w w.heap.size a vs vf ve) (ha : Fit a) (hl : Ints w w.heap.size vl l) (hin : Inb a l) (hll : l.length ≤ 1000000) :
    Calls Tryz.prog 15 #[vA a vs vf ve, vl, .bool back] w (fun r w' => ∃ v', r = .returned v' ∧ Own encI 1 3 w' w.heap.size v' (cl a.states.toNat (a.pairs back (fun _ => true)) l) ∧ Below w.heap.size w w') := by
  generalize hres : cl a.states.toNat (a.pairs back (fun _ => true)) l = res
  obtain ⟨n, hn⟩ : ∃ n : Nat, a.states = n := ⟨a.states.toNat, by have := ha.ok; simp [A.ok] at this; omega⟩
  have hnn : n ≤ 1000 := by have := ha.n; omega
  have hin' : ∀ s ∈ l, 0 ≤ s ∧ s < n := fun s hs => by have := hin s hs; omega
  have heb : ∀ e ∈ a.edges, (0 ≤ e.src ∧ e.src < n) ∧ 0 ≤ e.dst ∧ e.dst < n := fun e he => by have := edge_in ha he; omega
  obtain ⟨As, cs, rfl, hs1⟩ := id hfa.s
  obtain ⟨Af, cf, rfl, hs2⟩ := id hfa.f
  obtain ⟨Ae, ce, rfl, hre⟩ := id hfa.e
  obtain ⟨A0, c0, rfl, hr⟩ := id hl
  have hel := ha.e
  obtain ⟨W1, hW1⟩ : ∃ W1, w.alloc (.cells #[.int .i64 (n : Nat), .slice As a.start.length cs, .slice Af a.final.length cf, .slice Ae a.edges.length ce] 25) = W1 := ⟨_, rfl⟩
  have d1 : Below w.heap.size w W1 := hW1 ▸ alloc1 w _
  have b1 : W1.heap[w.heap.size]? = some (.cells #[.int .i64 (n : Nat), .slice As a.start.length cs, .slice Af a.final.length cf, .slice Ae a.edges.length ce] 25 (0, 0)) := by rw [← hW1]; exact heap_alloc_new w _
  have hz1 := d1.size
  have hmk := marked_ok a (.slice As a.start.length cs) (.slice Af a.final.length cf) (.slice Ae a.edges.length ce) _ l n W1 hn hnn (hl.below d1 hz1) hin' hll ⟨_, _, _, rfl⟩ ⟨_, _, _, rfl⟩ ⟨_, _, _, rfl⟩
  have hfin : rs (sws (a.pairs back (fun _ => true)) n (marks n l)) = res := by
    have h1 := sws_rs (ps := a.pairs back (fun _ => true)) (n := n) (m := marks n l) (marks_len n l) (fun p hp => by
      unfold A.pairs at hp
      obtain ⟨e, he, rfl⟩ := List.mem_map.1 hp
      have := heb e (List.mem_filter.1 he).1
      unfold turned
      cases back <;> simp <;> omega)
    rw [h1]
    rw [← hres, hn, Int.toNat_natCast]
    exact cl_same (rs_marks hin')
  have q1 : W1.cell? ⟨w.heap.size, 0, none⟩ = some (.int .i64 (n : Nat)) := cell_at b1 0
  have q2 : W1.cell? ⟨w.heap.size, 1, none⟩ = some (.slice As a.start.length cs) := cell_at b1 1
  have q3 : W1.cell? ⟨w.heap.size, 2, none⟩ = some (.slice Af a.final.length cf) := cell_at b1 2
  have q4 : W1.cell? ⟨w.heap.size, 3, none⟩ = some (.slice Ae a.edges.length ce) := cell_at b1 3
  unfold vA at hmk ⊢
  rw [hn] at hmk ⊢
  have hlt1 : w.heap.size < W1.heap.size := by rw [← hW1]; simp
  have HF := Lib.hid (And.intro hfin (And.intro heb (And.intro hre hn)))
  clear hfin heb hre hn hres hfa hl hs1 hs2 hr hin hin' b1
  go_enter Tryz.func15, Tryz.ntmps15
  go_wp2_with fail
  refine hmk.mono ?_
  rintro e w2 ⟨⟨b, rfl, hb0, hR⟩, d2⟩
  have p1 := (d2.cell (p := ⟨w.heap.size, 0, none⟩) hlt1).trans q1
  have hml := marks_len n l
  have hR0 : BRow w2 b (sws (a.pairs back (fun _ => true)) 0 (marks n l)) := hR
  clear hR hmk
  generalize marks n l = m0 at *
  go_wp2_with fail
  go_loopw [15] (fun i wr => ∃ k : Nat, k ≤ n ∧ i = .int .i64 k ∧ BRow wr b (sws (a.pairs back (fun _ => true)) k m0) ∧ Below W1.heap.size W1 wr) (fun i _ => n - (intOf i).toNat)
  case atStart => exact ⟨0, Nat.zero_le _, rfl, hR0, d2⟩
  case round =>
    obtain ⟨k, hk, rfl, hR, hb⟩ := hrel
    clear hR0 d2 p1
    obtain ⟨wo, hwo⟩ : ∃ wo, wo = wr := ⟨_, rfl⟩
    subst hwo
    by_cases hlt : k < n
    · have r4 := (hb.cell (p := ⟨w.heap.size, 3, none⟩) hlt1).trans q4
      have hi1 : (k : Int) < n := by omega
      have hR1 : BRow wo b (sw (a.prs back (fun _ => true) 0) (sws (a.pairs back (fun _ => true)) k m0)) := hR
      have hmk := sws_len (a.pairs back (fun _ => true)) m0 k
      have hnx : sw (a.pairs back (fun _ => true)) (sws (a.pairs back (fun _ => true)) k m0) = sws (a.pairs back (fun _ => true)) (k + 1) m0 := rfl
      have HN := Lib.hid hnx
      clear hR hnx
      generalize sws (a.pairs back (fun _ => true)) k m0 = mk at *
      rw [hml] at hmk
      go_wp2_with fail
      go_loopw [20] (fun i wr => ∃ j : Nat, j ≤ a.edges.length ∧ i = .int .i64 j ∧ BRow wr b (sw (a.prs back (fun _ => true) j) mk) ∧ Below W1.heap.size W1 wr) (fun i _ => a.edges.length - (intOf i).toNat)
      case atStart => exact ⟨0, Nat.zero_le _, rfl, hR1, hb⟩
      case round =>
        obtain ⟨j, hj, rfl, hR2, hb2⟩ := hrel
        clear hR1 hb r4
        by_cases hlt2 : j < a.edges.length
        · obtain ⟨_, heb, hre, _⟩ := HF.out
          obtain ⟨eb, eo, rfl, heb2, hec⟩ := hre (by omega)
          obtain ⟨z0, z1, z2, z3, z4, z5, z6⟩ := cell7 hec hlt2
          have hE := heb _ (List.getElem_mem hlt2)
          have dd := below_next d1 hb2
          have y0 := (dd.cell (p := ⟨eb, eo + j * 7, none⟩) heb2).trans z0
          have y1 := (dd.cell (p := ⟨eb, eo + j * 7 + 1, none⟩) heb2).trans z1
          have y2 := (dd.cell (p := ⟨eb, eo + j * 7 + 2, none⟩) heb2).trans z2
          have y3 := (dd.cell (p := ⟨eb, eo + j * 7 + 3, none⟩) heb2).trans z3
          have y4 := (dd.cell (p := ⟨eb, eo + j * 7 + 4, none⟩) heb2).trans z4
          have y5 := (dd.cell (p := ⟨eb, eo + j * 7 + 5, none⟩) heb2).trans z5
          have y6 := (dd.cell (p := ⟨eb, eo + j * 7 + 6, none⟩) heb2).trans z6
          have hsw := sw_edge a back (fun _ => true) mk j hlt2
          have hml2 := sw_len (a.prs back (fun _ => true) j) mk
          rw [hmk] at hml2
          clear z0 z1 z2 z3 z4 z5 z6 hec hre heb
          generalize a.edges[j] = ed at *
          obtain ⟨ex, ey, ef, eset⟩ := ed
          simp only at hE hsw y0 y1 y2 y3 y4 y5 y6
          obtain ⟨x, rfl⟩ : ∃ x : Nat, ex = x := ⟨ex.toNat, by omega⟩
          obtain ⟨y, rfl⟩ : ∃ y : Nat, ey = y := ⟨ey.toNat, by omega⟩
          obtain ⟨⟨_, hxn⟩, _, hyn⟩ := hE
          generalize sw (a.prs back (fun _ => true) j) mk = M at *
          have cx := hR2.cell x (by omega)
          have cy := hR2.cell y (by omega)
          have fy := hR2.free y
          have hbl := hR2.lt
          have hzb : W1.heap.size ≤ b := hb0
          have hxi : (x : Int) < n := by omega
          have hyi : (y : Int) < n := by omega
          have hba := hb2.trans ((alloc1 wr (.cells #[.int .i64 (x : Nat), .int .i64 (y : Nat), .bool ef, .int .u64 eset.w0.toNat, .int .u64 eset.w1.toNat, .int .u64 eset.w2.toNat, .int .u64 eset.w3.toNat] 73)).mono hb2.size)
          have hRa := hR2.below (alloc1 wr (.cells #[.int .i64 (x : Nat), .int .i64 (y : Nat), .bool ef, .int .u64 eset.w0.toNat, .int .u64 eset.w1.toNat, .int .u64 eset.w2.toNat, .int .u64 eset.w3.toNat] 73))
          cases back with
          | false =>
            simp only [turned, Bool.true_and, Bool.false_eq_true, if_false, Int.toNat_natCast] at hsw
            have fw := hR2.free y
            have hRs := hR2.set y true
            have hbs := hb2.setCell (p := ⟨b, y, none⟩) hzb (.bool true)
            have HRS := Lib.hid (And.intro hRs hbs)
            clear hR2 hRs hbs fy
            cases hmx : M.getD x false with
            | false =>
              rw [hmx] at cx
              simp only [hmx, Bool.false_eq_true, if_false] at hsw
              have HS := Lib.hid (And.intro hsw (And.intro hml2 (And.intro hRa (And.intro hba hmx))))
              clear hsw hml2 hRa hba cy hmx
              go_wp2_with fail
              go_roundw
              case rel => exact ⟨j + 1, by omega, by go_num, by rw [HS.out.1]; exact HS.out.2.2.1, HS.out.2.2.2.1⟩
              case measure => simp [intOf]; omega
            | true =>
              rw [hmx] at cx
              simp only [hmx, if_true] at hsw
              have HS := Lib.hid (And.intro hsw (And.intro hml2 (And.intro hRa (And.intro hba hmx))))
              clear hsw hml2 hRa hba hmx
              generalize M.getD y false = old at *
              go_wp2_with fail
              go_roundw
              case rel => exact ⟨j + 1, by omega, by go_num, by rw [HS.out.1]; exact HRS.out.1.below (alloc1 _ _), HRS.out.2.trans ((alloc1 _ _).mono HRS.out.2.size)⟩
              case measure => simp [intOf]; omega
          | true =>
            simp only [turned, Bool.true_and, if_true, Int.toNat_natCast] at hsw
            have fw := hR2.free x
            have hRs := hR2.set x true
            have hbs := hb2.setCell (p := ⟨b, x, none⟩) hzb (.bool true)
            have HRS := Lib.hid (And.intro hRs hbs)
            clear hR2 hRs hbs fy
            cases hmx : M.getD y false with
            | false =>
              rw [hmx] at cy
              simp only [hmx, Bool.false_eq_true, if_false] at hsw
              have HS := Lib.hid (And.intro hsw (And.intro hml2 (And.intro hRa (And.intro hba hmx))))
              clear hsw hml2 hRa hba cx hmx
              go_wp2_with fail
              go_roundw
              case rel => exact ⟨j + 1, by omega, by go_num, by rw [HS.out.1]; exact HS.out.2.2.1, HS.out.2.2.2.1⟩
              case measure => simp [intOf]; omega
            | true =>
              rw [hmx] at cy
              simp only [hmx, if_true] at hsw
              have HS := Lib.hid (And.intro hsw (And.intro hml2 (And.intro hRa (And.intro hba hmx))))
              clear hsw hml2 hRa hba hmx
              generalize M.getD x false = old at *
              go_wp2_with fail
              go_roundw
              case rel => exact ⟨j + 1, by omega, by go_num, by rw [HS.out.1]; exact HRS.out.1.below (alloc1 _ _), HRS.out.2.trans ((alloc1 _ _).mono HRS.out.2.size)⟩
              case measure => simp [intOf]; omega
        · have : j = a.edges.length := by omega
          subst this
          rw [prs_all, HN.out] at hR2
          have hRn := Lib.hid hR2
          clear hR2
          go_wp2_with fail
          go_roundw
          case rel => exact ⟨k + 1, by omega, by go_num, hRn.out, hb2⟩
          case measure => simp [intOf]; omega
    · have : k = n := by omega
      subst this
      have hmk := sws_len (a.pairs back (fun _ => true)) m0 k
      rw [hml] at hmk
      have hrr := rrises_ok b _ k wo hmk hnn hR
      rw [HF.out.1] at hrr
      have hHb := Lib.hid hb
      clear hR hmk
      go_wp2_with fail
      refine hrr.mono ?_
      rintro e w5 ⟨v5, rfl, ho5, d5⟩
      obtain ⟨A5, c5, rfl, _⟩ := ho5.form
      go_wp2_with fail
      go_ret
      have hb := hHb.out
      exact ⟨_, rfl, ho5.lower (Nat.le_trans hz1 hb.size), below_next (below_next d1 hb) d5⟩

theorem filter_take_yes {l : List Int} {p : Int → Bool} {k : Nat} (h : k < l.length) (hp : p l[k] = true) : (l.take (k + 1)).filter p = (l.take k).filter p ++ [l[k]] := by
  rw [List.take_succ_eq_append_getElem h, List.filter_append, List.filter_cons_of_pos hp, List.filter_nil]
theorem filter_take_no {l : List Int} {p : Int → Bool} {k : Nat} (h : k < l.length) (hp : p l[k] = false) : (l.take (k + 1)).filter p = (l.take k).filter p := by
  rw [List.take_succ_eq_append_getElem h, List.filter_append, List.filter_cons_of_neg (by rw [hp]; decide), List.filter_nil, List.append_nil]

theorem rlive_ok (a : A) (vs vf ve : Value) (w : World) (hfa : FaAt w w.heap.size a vs vf ve) (ha : Fit a) :
    Calls Tryz.prog 16 #[vA a vs vf ve] w (fun r w' => ∃ v', r = .returned v' ∧ Own encI 1 3 w' w.heap.size v' a.live ∧ Below w.heap.size w w') := by
  obtain ⟨i0, hi, hz0, hz1, hz2⟩ := info_parts info_int
  obtain ⟨As, cs, rfl, hs1⟩ := id hfa.s
  obtain ⟨Af, cf, rfl, hs2⟩ := id hfa.f
  obtain ⟨Ae, ce, rfl, hs3⟩ := id hfa.e
  obtain ⟨W1, hW1⟩ : ∃ W1, w.alloc (.cells #[.int .i64 a.states, .slice As a.start.length cs, .slice Af a.final.length cf, .slice Ae a.edges.length ce] 25) = W1 := ⟨_, rfl⟩
  have d1 : Below w.heap.size w W1 := hW1 ▸ alloc1 w _
  have b1 : W1.heap[w.heap.size]? = some (.cells #[.int .i64 a.states, .slice As a.start.length cs, .slice Af a.final.length cf, .slice Ae a.edges.length ce] 25 (0, 0)) := by rw [← hW1]; exact heap_alloc_new w _
  have hz1' := d1.size
  have hlt1 : w.heap.size < W1.heap.size := by rw [← hW1]; simp
  have hal := rreach_ok true a (.slice As a.start.length cs) (.slice Af a.final.length cf) (.slice Ae a.edges.length ce) _ a.final W1 (hfa.below d1 hz1') ha (hfa.f.below d1 hz1') (inb_final ha) ha.f
  have hre := fun W (d : Below W1.heap.size W1 W) => rreach_ok false a (.slice As a.start.length cs) (.slice Af a.final.length cf) (.slice Ae a.edges.length ce) _ a.start W ((hfa.below d1 hz1').below d d.size) ha ((hfa.s.below d1 hz1').below d d.size) (inb_start ha) ha.s
  have e1 : cl a.states.toNat (a.pairs true (fun _ => true)) a.final = a.alive := rfl
  have e2 : cl a.states.toNat (a.pairs false (fun _ => true)) a.start = a.reach a.start := rfl
  have e3 : a.live = (a.reach a.start).filter (fun s => a.alive.any (fun x => s == x)) := rfl
  have hll : (a.reach a.start).length ≤ 1000 := by have := cl_len a.states.toNat (a.pairs false (fun _ => true)) a.start; have := ha.n; unfold A.reach; omega
  have hla : a.alive.length ≤ 1000000 := by have := cl_len a.states.toNat (a.pairs true (fun _ => true)) a.final; have := ha.n; unfold A.alive; omega
  rw [e1] at hal
  rw [e2] at hre
  rw [e3]
  obtain ⟨q0, q1, q2, q3⟩ : W1.cell? ⟨w.heap.size, 0, none⟩ = some (.int .i64 a.states) ∧ W1.cell? ⟨w.heap.size, 1, none⟩ = some (.slice As a.start.length cs) ∧ W1.cell? ⟨w.heap.size, 2, none⟩ = some (.slice Af a.final.length cf) ∧ W1.cell? ⟨w.heap.size, 3, none⟩ = some (.slice Ae a.edges.length ce) := ⟨cell_at b1 0, cell_at b1 1, cell_at b1 2, cell_at b1 3⟩
  unfold vA at hal hre ⊢
  clear e1 e2 e3 hfa hs1 hs2 hs3 b1
  generalize a.alive = al at *
  generalize a.reach a.start = rl at *
  go_enter Tryz.func16, Tryz.ntmps16
  go_wp2_with fail
  refine hal.mono ?_
  rintro e w2 ⟨v2, rfl, o2, d2⟩
  have s2 := o2.sl encI_len
  obtain ⟨A2, c2, rfl, _⟩ := o2.form
  have p0 := (d2.cell (p := ⟨w.heap.size, 0, none⟩) hlt1).trans q0
  have p1 := (d2.cell (p := ⟨w.heap.size, 1, none⟩) hlt1).trans q1
  have p2 := (d2.cell (p := ⟨w.heap.size, 2, none⟩) hlt1).trans q2
  have p3 := (d2.cell (p := ⟨w.heap.size, 3, none⟩) hlt1).trans q3
  have hre2 := hre _ d2
  clear q0 q1 q2 q3 hre hal
  go_wp2_with fail
  refine hre2.mono ?_
  rintro e w3 ⟨v3, rfl, o3, d3⟩
  have s3 := o3.sl encI_len
  obtain ⟨A3, c3, rfl, hr3⟩ := id s3
  replace s2 := s2.below d3 d3.size
  have dw := below_next (below_next d1 d2) d3
  clear p0 p1 p2 p3 hre2 d2 d3 o2 o3
  go_wp2_with fail
  go_loopw [16, 3] (fun i v wr => ∃ (k : Nat) (A : Option Addr) (c : Nat), k ≤ rl.length ∧ i = .int .i64 k ∧ v = .slice A ((rl.take k).filter (fun s => al.any (fun x => s == x))).length c ∧ Own encI 1 3 wr w3.heap.size (.slice A ((rl.take k).filter (fun s => al.any (fun x => s == x))).length c) ((rl.take k).filter (fun s => al.any (fun x => s == x))) ∧ Below w3.heap.size w3 wr) (fun i _ _ => rl.length - (intOf i).toNat)
  case atStart => exact ⟨0, none, 0, Nat.zero_le _, rfl, rfl, Own.nil none, Below.refl _ _⟩
  case round =>
    obtain ⟨k, A0, c0, hk, rfl, rfl, ho, hb⟩ := hrel
    by_cases hlt : k < rl.length
    · obtain ⟨b0, o0, rfl, hb0, hc0⟩ := hr3 (by omega)
      have hcell := (hb.cell (p := ⟨b0, o0 + k, none⟩) hb0).trans (cell1 encI_eq hc0 hlt)
      have hi2 : (k : Int) < rl.length := by omega
      have hfl := List.length_filter_le (fun s => al.any (fun x => s == x)) (rl.take k)
      rw [List.length_take] at hfl
      have hhas := rhas_ok _ al rl[k] wr (s2.below hb hb.size) hla
      cases hp : al.any (fun x => rl[k] == x) with
      | true =>
        have hnx := filter_take_yes (p := fun s => al.any (fun x => s == x)) hlt hp
        rw [hp] at hhas
        have hbyt : (4 * (((rl.take k).filter (fun s => al.any (fun x => s == x))).length + 1) + 4096) * 8 ≤ 140737488355328 := by omega
        have hwl2 : ((rl.take k).filter (fun s => al.any (fun x => s == x))).length + 1 ≤ 4611686018427387904 := by omega
        have HN := Lib.hid hnx
        clear hnx hp hc0 hr3 s2 s3
        generalize (rl.take k).filter (fun s => al.any (fun x => s == x)) = xs at *
        generalize rl[k] = y at *
        have hbs := hb.size
        go_wp2_with fail
        refine hhas.mono ?_
        rintro e w5 ⟨rfl, rfl⟩
        go_wp2_with (at_builtin; refine wpList_append_my _ rfl (.tmp 23) (.tmp 25) 22 rfl encI_len encI_one 3 i0 _ Tryz.underlying22 hi hz0 hz1 hz2 rfl (by decide) (base := w3.heap.size) rfl (xs := xs) (ho.below (alloc1 _ _)) rfl (ys := [y]) (Sl_one (enc := encI) (size := 1) _ y _ _) hbyt hwl2 (Nat.le_trans hbs (alloc1 _ _).size) ?_; intro v1 w1 hown1 hg1 hb1 hl1; obtain ⟨A1, cc1, rfl, hle1⟩ := hown1.form)
        go_roundw
        case rel => exact ⟨k + 1, A1, cc1, by omega, by go_num, by rw [HN.out, List.length_append]; rfl, by rw [HN.out]; exact hown1, (hb.trans ((alloc1 _ _).mono hbs)).trans hl1⟩
        case measure => simp [intOf]; omega
      | false =>
        have hnx := filter_take_no (p := fun s => al.any (fun x => s == x)) hlt hp
        rw [hp] at hhas
        have HN := Lib.hid hnx
        clear hnx hp hc0 hr3 s2 s3
        generalize (rl.take k).filter (fun s => al.any (fun x => s == x)) = xs at *
        generalize rl[k] = y at *
        go_wp2_with fail
        refine hhas.mono ?_
        rintro e w5 ⟨rfl, rfl⟩
        go_wp2_with fail
        go_roundw
        case rel => exact ⟨k + 1, A0, c0, by omega, by go_num, by rw [HN.out], by rw [HN.out]; exact ho, hb⟩
        case measure => simp [intOf]; omega
    · have : k = rl.length := by omega
      subst this
      rw [List.take_length] at ho
      clear hr3 s2 s3
      rw [List.take_length]
      generalize hx : rl.filter (fun s => al.any (fun x => s == x)) = xs at *
      have HX := Lib.hid hx
      clear hx
      go_wp2
      go_ret
      exact ⟨.slice A0 xs.length c0, rfl, by rw [HX.out]; exact ho.lower dw.size, below_next dw hb⟩
end Go.Proofs.YtakldmbbmefnbaaGreat
/- '==' on sets and on edges. -/
namespace Go.Proofs.YtakldmbbmefnbaaGreat
open Go.RowKit
set_option maxRecDepth 100000

theorem BSet.eq_iff (s t : BSet) : s = t ↔ ((s.w0.toNat : Int) = t.w0.toNat ∧ (s.w1.toNat : Int) = t.w1.toNat ∧ (s.w2.toNat : Int) = t.w2.toNat ∧ (s.w3.toNat : Int) = t.w3.toNat) := by
  constructor
  · rintro rfl; simp
  · rintro ⟨h0, h1, h2, h3⟩
    cases s; cases t
    simp only at h0 h1 h2 h3
    congr 1 <;> (apply BitVec.eq_of_toNat_eq; omega)

theorem info_u64 : (Tryz.prog.info? 67).isSome = true := by kernel_rfl
theorem cells_u64' : Tryz.prog.cellsOf 67 = 1 := by kernel_rfl

theorem run_equalIn_set (d : Nat) (w : World) (s t : BSet) : (Op.equalIn (d + 2) 69 (vS s) (vS t)).run Tryz.prog w = .ok (decide (s = t)) w := by
  obtain ⟨i, hi⟩ := Option.isSome_iff_exists.1 info_u64
  have hq := BSet.eq_iff s t
  unfold vS
  rw [run_equalIn_array w (d + 1) _ _ Tryz.underlying69 hi, cells_u64']
  by_cases h0 : (s.w0.toNat : Int) = t.w0.toNat
  · by_cases h1 : (s.w1.toNat : Int) = t.w1.toNat
    · by_cases h2 : (s.w2.toNat : Int) = t.w2.toNat
      · by_cases h3 : (s.w3.toNat : Int) = t.w3.toNat
        · have : s = t := hq.2 ⟨h0, h1, h2, h3⟩
          subst this
          simp [List.range, List.range.loop, Op.eqItems, go_sem]
        · have : ¬ s = t := fun h => h3 (hq.1 h).2.2.2
          simp [List.range, List.range.loop, Op.eqItems, go_sem, h0, h1, h2, h3, this]
      · have : ¬ s = t := fun h => h2 (hq.1 h).2.2.1
        simp [List.range, List.range.loop, Op.eqItems, go_sem, h0, h1, h2, this]
    · have : ¬ s = t := fun h => h1 (hq.1 h).2.1
      simp [List.range, List.range.loop, Op.eqItems, go_sem, h0, h1, this]
  · have : ¬ s = t := fun h => h0 (hq.1 h).1
    simp [List.range, List.range.loop, Op.eqItems, go_sem, h0, this]

theorem run_eql_set (w : World) (s t : BSet) : (binOp .eql 69 (vS s) (vS t)).run Tryz.prog w = .ok (.bool (decide (s = t))) w := by
  have h := run_equalIn_set 9998 w s t
  unfold vS at h ⊢
  rw [run_eql_struct, show (10000 : Nat) = 9998 + 2 from rfl, h]
  rfl
theorem E.eq_iff (e f : E) : e = f ↔ e.src = f.src ∧ e.dst = f.dst ∧ e.free = f.free ∧ e.set = f.set := by
  cases e; cases f
  simp
theorem run_equal_edge (w : World) (e f : E) : (Op.equal 73 (vE e) (vE f)).run Tryz.prog w = .ok (decide (e = f)) w := by
  have hq := E.eq_iff e f
  have hs := run_equalIn_set 9997 w e.set f.set
  unfold vS at hs
  unfold vE
  simp only [Op.equal, Op.maxDepth, show (10000 : Nat) = 9999 + 1 from rfl]
  rw [run_equalIn_struct w 9999 _ _ _ Tryz.underlying73 (by kernel_rfl)]
  simp [Program.fieldsOf, Tryz.underlying73, Op.eqFields, go_sem, hs]
  by_cases h0 : e.src = f.src
  · by_cases h1 : e.dst = f.dst
    · by_cases h2 : e.free = f.free
      · by_cases h3 : e.set = f.set
        · have hne : e = f := hq.2 ⟨h0, h1, h2, h3⟩
          simp [hne]
        · have hne : ¬ e = f := fun h => h3 (hq.1 h).2.2.2
          simp [h0, h1, h2, h3, hne]
      · have hne : ¬ e = f := fun h => h2 (hq.1 h).2.2.1
        simp [h0, h1, h2, hne]
    · have hne : ¬ e = f := fun h => h1 (hq.1 h).2.1
      simp [h0, h1, hne]
  · have hne : ¬ e = f := fun h => h0 (hq.1 h).1
    simp [h0, hne]
theorem run_eql_edge (w : World) (e f : E) : (binOp .eql 73 (vE e) (vE f)).run Tryz.prog w = .ok (.bool (decide (e = f))) w := by
  have h := run_equal_edge w e f
  unfold vE at h ⊢
  simp [binOp, h]
theorem run_neq_edge (w : World) (e f : E) : (binOp .neq 73 (vE e) (vE f)).run Tryz.prog w = .ok (.bool (!decide (e = f))) w := by
  have h := run_equal_edge w e f
  unfold vE at h ⊢
  simp [binOp, h]
theorem run_neq_set (w : World) (s t : BSet) : (binOp .neq 69 (vS s) (vS t)).run Tryz.prog w = .ok (.bool (!decide (s = t))) w := by
  have h := run_equalIn_set 9998 w s t
  unfold vS at h ⊢
  simp [binOp, Op.equal, Op.maxDepth, h]
end Go.Proofs.YtakldmbbmefnbaaGreat
/- the reference's words: sameInts, SameEdges, Same, Has (a byte). -/
namespace Go.Proofs.YtakldmbbmefnbaaGreat
open Go.RowKit Go.Sort Go.Proofs
set_option maxRecDepth 100000
set_option maxHeartbeats 1000000

theorem sameInts_ok (v v' : Value) (xs ys : List Int) (w : World) (h : Ints w w.heap.size v xs) (h' : Ints w w.heap.size v' ys) (hn : xs.length ≤ 1000000) (hn' : ys.length ≤ 1000000) :
    Calls Tryz.prog 77 #[v, v'] w (fun r w' => r = .returned (.bool (decide (xs = ys))) ∧ Below w.heap.size w w') := by
  obtain ⟨A, c, rfl, hr⟩ := id h
  obtain ⟨A', c', rfl, hr'⟩ := id h'
  go_enter Tryz.func77, Tryz.ntmps77
  by_cases hl : ((xs.length : Int) != ys.length) = true
  · go_wp2
    go_ret
    have : xs ≠ ys := by rintro rfl; simp at hl
    exact ⟨by simp [this], Below.refl _ _⟩
  · have hl' : ((xs.length : Int) != ys.length) = false := by simpa using hl
    go_wp2
    have hll : xs.length = ys.length := by simp at hl'; omega
    have HL := Lib.hid hll
    clear hll hl hl'
    go_loopw [14] (fun i wr => ∃ k : Nat, k ≤ xs.length ∧ i = .int .i64 k ∧ Below w.heap.size w wr ∧ xs.take k = ys.take k) (fun i _ => xs.length - (intOf i).toNat)
    case atStart => exact ⟨0, Nat.zero_le _, rfl, Below.refl _ _, rfl⟩
    case round =>
      obtain ⟨k, hk, rfl, hB, hall⟩ := hrel
      have HA := Lib.hid hall
      clear hall
      by_cases hlt : k < xs.length
      · have hlt' : k < ys.length := by have := HL.out; omega
        obtain ⟨b, o, rfl, hb, hc⟩ := hr (by omega)
        obtain ⟨b', o', rfl, hb', hc'⟩ := hr' (by omega)
        have hcell := (hB.cell (p := ⟨b, o + k, none⟩) hb).trans (cell1 encI_eq hc hlt)
        have hcell' := (hB.cell (p := ⟨b', o' + k, none⟩) hb').trans (cell1 encI_eq hc' hlt')
        clear hr hc h hr' hc' h'
        have hi : (k : Int) < xs.length := by omega
        have hi' : (k : Int) < ys.length := by omega
        by_cases hpx : (xs[k] != ys[k]) = true
        · go_wp2
          go_ret
          have : xs ≠ ys := by rintro rfl; simp at hpx
          exact ⟨by simp [this], hB⟩
        · have hpx' : (xs[k] != ys[k]) = false := by simpa using hpx
          have HP := Lib.hid hpx'
          go_wp2
          go_roundw
          case rel =>
            refine ⟨k + 1, by omega, by go_num, hB, ?_⟩
            have h1 := HP.out
            have h2 : xs[k] = ys[k] := by simpa using h1
            rw [List.take_succ_eq_append_getElem hlt, List.take_succ_eq_append_getElem hlt', HA.out, h2]
          case measure => simp [intOf]; omega
      · clear hr h hr' h'
        go_wp2
        go_ret
        have h1 := HA.out
        have h2 := HL.out
        rw [List.take_of_length_le (by omega), List.take_of_length_le (by omega)] at h1
        exact ⟨by simp [h1], hB⟩

theorem sameEdges_ok (v v' : Value) (xs ys : List E) (w : World) (h : Edges w w.heap.size v xs) (h' : Edges w w.heap.size v' ys) (hn : xs.length ≤ 1000000) (hn' : ys.length ≤ 1000000) :
    Calls Tryz.prog 53 #[v, v'] w (fun r w' => r = .returned (.bool (decide (xs = ys))) ∧ Below w.heap.size w w') := by
  obtain ⟨A, c, rfl, hr⟩ := id h
  obtain ⟨A', c', rfl, hr'⟩ := id h'
  go_enter Tryz.func53, Tryz.ntmps53
  by_cases hl : ((xs.length : Int) != ys.length) = true
  · go_wp2
    go_ret
    have : xs ≠ ys := by rintro rfl; simp at hl
    exact ⟨by simp [this], Below.refl _ _⟩
  · have hl' : ((xs.length : Int) != ys.length) = false := by simpa using hl
    go_wp2
    have hll : xs.length = ys.length := by simp at hl'; omega
    have HL := Lib.hid hll
    clear hll hl hl'
    go_loopw [14] (fun i wr => ∃ k : Nat, k ≤ xs.length ∧ i = .int .i64 k ∧ Below w.heap.size w wr ∧ xs.take k = ys.take k) (fun i _ => xs.length - (intOf i).toNat)
    case atStart => exact ⟨0, Nat.zero_le _, rfl, Below.refl _ _, rfl⟩
    case round =>
      obtain ⟨k, hk, rfl, hB, hall⟩ := hrel
      have HA := Lib.hid hall
      clear hall
      by_cases hlt : k < xs.length
      · have hlt' : k < ys.length := by have := HL.out; omega
        obtain ⟨b, o, rfl, hb, hc⟩ := hr (by omega)
        obtain ⟨b', o', rfl, hb', hc'⟩ := hr' (by omega)
        obtain ⟨z0, z1, z2, z3, z4, z5, z6⟩ := cell7 hc hlt
        obtain ⟨z0', z1', z2', z3', z4', z5', z6'⟩ := cell7 hc' hlt'
        have y0 := (hB.cell (p := ⟨b, o + k * 7, none⟩) hb).trans z0
        have y0' := (hB.cell (p := ⟨b', o' + k * 7, none⟩) hb').trans z0'
        have y1 := (hB.cell (p := ⟨b, o + k * 7 + 1, none⟩) hb).trans z1
        have y1' := (hB.cell (p := ⟨b', o' + k * 7 + 1, none⟩) hb').trans z1'
        have y2 := (hB.cell (p := ⟨b, o + k * 7 + 2, none⟩) hb).trans z2
        have y2' := (hB.cell (p := ⟨b', o' + k * 7 + 2, none⟩) hb').trans z2'
        have y3 := (hB.cell (p := ⟨b, o + k * 7 + 3, none⟩) hb).trans z3
        have y3' := (hB.cell (p := ⟨b', o' + k * 7 + 3, none⟩) hb').trans z3'
        have y4 := (hB.cell (p := ⟨b, o + k * 7 + 4, none⟩) hb).trans z4
        have y4' := (hB.cell (p := ⟨b', o' + k * 7 + 4, none⟩) hb').trans z4'
        have y5 := (hB.cell (p := ⟨b, o + k * 7 + 5, none⟩) hb).trans z5
        have y5' := (hB.cell (p := ⟨b', o' + k * 7 + 5, none⟩) hb').trans z5'
        have y6 := (hB.cell (p := ⟨b, o + k * 7 + 6, none⟩) hb).trans z6
        have y6' := (hB.cell (p := ⟨b', o' + k * 7 + 6, none⟩) hb').trans z6'
        clear hr hc h hr' hc' h'
        have hi : (k : Int) < xs.length := by omega
        have hi' : (k : Int) < ys.length := by omega
        have hA1 : Below w.heap.size w (wr.alloc (.cells #[.int .i64 xs[k].src, .int .i64 xs[k].dst, .bool xs[k].free, .int .u64 xs[k].set.w0.toNat, .int .u64 xs[k].set.w1.toNat, .int .u64 xs[k].set.w2.toNat, .int .u64 xs[k].set.w3.toNat] 73)) := hB.trans ((alloc1 wr _).mono hB.size)
        have hne := fun W => run_neq_edge W xs[k] ys[k]
        unfold vE at hne
        have hbl := Nat.lt_of_lt_of_le hb hB.size
        have hbl' := Nat.lt_of_lt_of_le hb' hB.size
        clear z0 z1 z2 z3 z4 z5 z6 z0' z1' z2' z3' z4' z5' z6'
        have hwit : (∀ hq : k < xs.length, xs[k] = xs[k]'hq) := fun _ => rfl
        by_cases hpx : xs[k] = ys[k]
        · rw [decide_eq_true hpx] at hne
          have hnx : xs.take (k + 1) = ys.take (k + 1) := by rw [List.take_succ_eq_append_getElem hlt, List.take_succ_eq_append_getElem hlt', HA.out, hpx]
          have HP := Lib.hid hnx
          clear hpx hwit hnx
          generalize xs[k] = ea at *
          generalize ys[k] = eb at *
          go_wp2
          go_quiet (fail)
          go_wp2
          go_roundw
          case rel => exact ⟨k + 1, by omega, by go_num, below_drewN hA1 _, HP.out⟩
          case measure => simp [intOf]; omega
        · rw [decide_eq_false hpx] at hne
          have hnx : xs ≠ ys := by rintro rfl; exact hpx rfl
          have HP := Lib.hid hnx
          clear hpx hwit hnx
          generalize xs[k] = ea at *
          generalize ys[k] = eb at *
          go_wp2
          go_quiet (fail)
          go_wp2
          go_ret
          exact ⟨by simp [HP.out], below_drewN hA1 _⟩
      · clear hr h hr' h'
        go_wp2
        go_ret
        have h1 := HA.out
        have h2 := HL.out
        rw [List.take_of_length_le (by omega), List.take_of_length_le (by omega)] at h1
        exact ⟨by simp [h1], hB⟩

/-- Are these the same automata? (as the program asks it: of two automata in memory) -/
theorem rsame_ok (a c : A) (vs vf ve us uf ue : Value) (w : World) (h : FaAt w w.heap.size a vs vf ve) (h' : FaAt w w.heap.size c us uf ue) (ha : Short a) (hc : Short c) :
    Calls Tryz.prog 24 #[vA a vs vf ve, vA c us uf ue] w (fun r w' => r = .returned (.bool (decide (a = c))) ∧ Below w.heap.size w w') := by
  obtain ⟨As, cs, rfl, _⟩ := id h.s
  obtain ⟨Af, cf, rfl, _⟩ := id h.f
  obtain ⟨Ae, ce, rfl, _⟩ := id h.e
  obtain ⟨Bs, ds, rfl, _⟩ := id h'.s
  obtain ⟨Bf, df, rfl, _⟩ := id h'.f
  obtain ⟨Be, de, rfl, _⟩ := id h'.e
  obtain ⟨W1, hW1⟩ : ∃ W1, w.alloc (.cells #[.int .i64 a.states, .slice As a.start.length cs, .slice Af a.final.length cf, .slice Ae a.edges.length ce] 25) = W1 := ⟨_, rfl⟩
  obtain ⟨W2, hW2⟩ : ∃ W2, W1.alloc (.cells #[.int .i64 c.states, .slice Bs c.start.length ds, .slice Bf c.final.length df, .slice Be c.edges.length de] 25) = W2 := ⟨_, rfl⟩
  have d1 : Below w.heap.size w W1 := hW1 ▸ alloc1 w _
  have d2 : Below W1.heap.size W1 W2 := hW2 ▸ alloc1 W1 _
  have b1 : W1.heap[w.heap.size]? = some (.cells #[.int .i64 a.states, .slice As a.start.length cs, .slice Af a.final.length cf, .slice Ae a.edges.length ce] 25 (0, 0)) := by rw [← hW1]; exact heap_alloc_new w _
  have b2 : W2.heap[W1.heap.size]? = some (.cells #[.int .i64 c.states, .slice Bs c.start.length ds, .slice Bf c.final.length df, .slice Be c.edges.length de] 25 (0, 0)) := by rw [← hW2]; exact heap_alloc_new W1 _
  have b1' := (d2.block _ (Array.getElem?_eq_some_iff.1 b1).1).trans b1
  have dw := below_next d1 d2
  have hq : a = c ↔ a.states = c.states ∧ a.start = c.start ∧ a.final = c.final ∧ a.edges = c.edges := by cases a; cases c; simp
  have k1 := fun W (d : Below W2.heap.size W2 W) => sameInts_ok _ _ _ _ W ((h.s.below dw dw.size).below d d.size) ((h'.s.below dw dw.size).below d d.size) ha.s hc.s
  have k2 := fun W (d : Below W2.heap.size W2 W) => sameInts_ok _ _ _ _ W ((h.f.below dw dw.size).below d d.size) ((h'.f.below dw dw.size).below d d.size) ha.f hc.f
  have k3 := fun W (d : Below W2.heap.size W2 W) => sameEdges_ok _ _ _ _ W ((h.e.below dw dw.size).below d d.size) ((h'.e.below dw dw.size).below d d.size) ha.e hc.e
  have cell := fun W (d : Below W2.heap.size W2 W) => (d.block _ (Array.getElem?_eq_some_iff.1 b1').1).trans b1'
  have cell' := fun W (d : Below W2.heap.size W2 W) => (d.block _ (Array.getElem?_eq_some_iff.1 b2).1).trans b2
  have four := fun (W : World) (b : Nat) (x0 x1 x2 x3 : Value) (t : TypeId) (h : W.heap[b]? = some (.cells #[x0, x1, x2, x3] t (0, 0))) => (⟨cell_at h 0, cell_at h 1, cell_at h 2, cell_at h 3⟩ : W.cell? ⟨b, 0, none⟩ = some x0 ∧ W.cell? ⟨b, 1, none⟩ = some x1 ∧ W.cell? ⟨b, 2, none⟩ = some x2 ∧ W.cell? ⟨b, 3, none⟩ = some x3)
  have HC := Lib.hid (And.intro cell (And.intro cell' four))
  obtain ⟨p0, p1, p2, p3⟩ := four _ _ _ _ _ _ _ b1'
  obtain ⟨q0, q1, q2, q3⟩ := four _ _ _ _ _ _ _ b2
  have HK := Lib.hid (And.intro k1 (And.intro k2 k3))
  have HQ := Lib.hid hq
  unfold vA
  clear cell cell' four k1 k2 k3 hq b1 b1' b2 h h' d1 d2
  by_cases e0 : a.states = c.states
  · have e0' : (a.states == c.states) = true := by simpa using e0
    have E0 := Lib.hid e0
    clear e0
    go_enter Tryz.func24, Tryz.ntmps24
    go_wp2_with fail
    refine (HK.out.1 _ (Below.refl _ _)).mono ?_
    rintro e w3 ⟨rfl, d3⟩
    obtain ⟨p0, p1, p2, p3⟩ := HC.out.2.2 _ _ _ _ _ _ _ (HC.out.1 _ d3)
    obtain ⟨q0, q1, q2, q3⟩ := HC.out.2.2 _ _ _ _ _ _ _ (HC.out.2.1 _ d3)
    by_cases e1 : a.start = c.start
    · rw [decide_eq_true e1]
      have E1 := Lib.hid e1
      clear e1
      go_wp2_with fail
      refine (HK.out.2.1 _ d3).mono ?_
      rintro e w4 ⟨rfl, d4⟩
      replace d4 := below_next d3 d4
      obtain ⟨p0, p1, p2, p3⟩ := HC.out.2.2 _ _ _ _ _ _ _ (HC.out.1 _ d4)
      obtain ⟨q0, q1, q2, q3⟩ := HC.out.2.2 _ _ _ _ _ _ _ (HC.out.2.1 _ d4)
      by_cases e2 : a.final = c.final
      · rw [decide_eq_true e2]
        have E2 := Lib.hid e2
        clear e2
        go_wp2_with fail
        refine (HK.out.2.2 _ d4).mono ?_
        rintro e w5 ⟨rfl, d5⟩
        by_cases e3 : a.edges = c.edges
        · rw [decide_eq_true e3]
          have E3 := Lib.hid e3
          clear e3
          go_wp2_with fail
          go_ret
          exact ⟨by rw [decide_eq_true (HQ.out.2 ⟨E0.out, E1.out, E2.out, E3.out⟩)]; rfl, below_next dw (below_next d4 d5)⟩
        · rw [decide_eq_false e3]
          have E3 := Lib.hid e3
          clear e3
          go_wp2_with fail
          go_ret
          exact ⟨by rw [decide_eq_false (fun h => E3.out (HQ.out.1 h).2.2.2)]; rfl, below_next dw (below_next d4 d5)⟩
      · rw [decide_eq_false e2]
        have E2 := Lib.hid e2
        clear e2
        go_wp2_with fail
        go_ret
        exact ⟨by rw [decide_eq_false (fun h => E2.out (HQ.out.1 h).2.2.1)]; rfl, below_next dw d4⟩
    · rw [decide_eq_false e1]
      have E1 := Lib.hid e1
      clear e1
      go_wp2_with fail
      go_ret
      exact ⟨by rw [decide_eq_false (fun h => E1.out (HQ.out.1 h).2.1)]; rfl, below_next dw d3⟩
  · have e0' : (a.states == c.states) = false := by simpa using e0
    have E0 := Lib.hid e0
    clear e0
    go_enter Tryz.func24, Tryz.ntmps24
    go_wp2_with fail
    go_ret
    exact ⟨by rw [decide_eq_false (fun h => E0.out (HQ.out.1 h).1)]; rfl, dw⟩
end Go.Proofs.YtakldmbbmefnbaaGreat
/- A region whose order is open up to its m-th operation, each of which keeps what the others have come to; the rest come one behind the other. -/
namespace Go.Proofs.YtakldmbbmefnbaaGreat
open Go.RowKit

/-- What the first m operations look at: nothing that another one of them writes, but behind it. -/
def depsTo (ops : Array Oper) (m : Nat) : Bool :=
  (List.range m).all fun i => match ops[i]? with
    | none => true
    | some o => (o.after.all fun e => !Region.binds .any e || decide (e.on < i)) && (match o.op with | .select .. => false | _ => true) && o.guard.isNone &&
      ((o.looksAt ops).all fun t => (List.range m).all fun j => match ops[j]? with
        | none => true
        | some o' => (o'.dst != some t) || (o.after.any fun e => e.on == j && Region.binds .any e))
/-- For what an operation waits. -/
def waits (ops : Array Oper) (i : Nat) : List Nat := match ops[i]? with
  | none => []
  | some o => (o.after.toList.filter (fun e => Region.binds .any e)).map (·.on)
/-- These, and for what they wait, on and on (what stands below n). -/
def downTo (ops : Array Oper) : Nat → List Nat → List Nat
  | 0, S => S
  | j + 1, S => downTo ops j (if S.contains j then S ++ waits ops j else S)
/-- Each of the others comes behind all that stand ahead of it, and waits for none that stands behind it. -/
def tailOk (ops : Array Oper) (m : Nat) : Bool :=
  (List.range ops.size).all fun i => decide (i < m) || ((waits ops i).all (fun j => decide (j < i)) && ((List.range i).all fun j => (downTo ops i (waits ops i)).contains j))
/-- What has been carried out waits for nothing that has not. -/
def Closed (ops : Array Oper) (listed : Array Bool) : Prop := ∀ i, listed.getD i false = true → ∀ j ∈ waits ops i, listed.getD j false = true
theorem down_in {ops : Array Oper} {listed : Array Bool} (hc : Closed ops listed) : ∀ (n : Nat) (S : List Nat), (∀ j ∈ S, listed.getD j false = true) → ∀ j ∈ downTo ops n S, listed.getD j false = true
  | 0, S, h, j, hj => h j hj
  | n + 1, S, h, j, hj => by
    refine down_in hc n _ (fun k hk => ?_) j hj
    split at hk
    · rename_i hm
      rcases List.mem_append.1 hk with hk | hk
      · exact h k hk
      · exact hc n (h n (by simpa using hm)) k hk
    · exact h k hk
theorem mem_waits {ops : Array Oper} {i : Nat} {o : Oper} (ho : ops[i]? = some o) {j : Nat} : j ∈ waits ops i ↔ ∃ x ∈ o.after, x.on = j ∧ Region.binds .any x = true := by
  unfold waits
  rw [ho]
  simp only [List.mem_map, List.mem_filter]
  constructor
  · rintro ⟨x, ⟨h1, h2⟩, rfl⟩
    exact ⟨x, by simpa using h1, rfl, h2⟩
  · rintro ⟨x, h1, rfl, h2⟩
    exact ⟨x, ⟨by simpa using h1, h2⟩, rfl⟩

section
variable {P : Program} {ops : Array Oper} {Q : Exit → Act → World → Prop} {a0 : Act}

theorem wpOp_mono {i : Nat} {a : Act} {w : World} {K K' : Act → World → Prop} (h : ∀ a w, K a w → K' a w) (hh : wpOp P ops Q i K a w) : wpOp P ops Q i K' a w := by
  unfold wpOp at *
  cases ho : ops[i]? with
  | none => rw [ho] at hh; exact h _ _ hh
  | some o =>
    rw [ho] at hh
    simp only at hh ⊢
    split at hh
    · rename_i hw
      rw [if_pos hw]
      rcases hh with h1 | h1
      · exact .inl (Oper.wp_mono h h1)
      · exact .inr h1
    · rename_i hw
      rw [if_neg hw]
      exact h _ _ hh

theorem ready_of {listed : Array Bool} {i : Nat} (hi : i ∈ Region.ready .any ops listed) : i < ops.size ∧ listed.getD i true = false ∧ ∀ o, ops[i]? = some o → ∀ x ∈ o.after, Region.binds .any x = true → listed.getD x.on false = true := by
  simp only [Region.ready, List.mem_filter, List.mem_range, Bool.and_eq_true, Bool.not_eq_true'] at hi
  obtain ⟨hlt, hun, hx⟩ := hi
  refine ⟨hlt, hun, fun o ho x hmem hb => ?_⟩
  rw [ho] at hx
  simp only [Option.map_some, Option.getD_some] at hx
  have h5 := Array.all_eq_true'.1 hx x hmem
  simpa [hb] using h5
theorem ready_in {listed : Array Bool} {i : Nat} (hi : i < ops.size) (hun : listed.getD i true = false) (h : ∀ o, ops[i]? = some o → ∀ x ∈ o.after, Region.binds .any x = true → listed.getD x.on false = true) : i ∈ Region.ready .any ops listed := by
  have ho : ops[i]? = some ops[i] := Array.getElem?_eq_getElem hi
  simp only [Region.ready, List.mem_filter, List.mem_range, hi, hun, ho, Option.map_some, Option.getD_some, Bool.not_false, Bool.true_and, true_and]
  refine Array.all_eq_true'.2 fun x hx => ?_
  cases hb : Region.binds .any x with
  | false => simp
  | true => simpa [hb] using h _ ho x hx hb
theorem getD_ft {listed : Array Bool} {i : Nat} (hi : i < listed.size) : listed.getD i true = listed.getD i false := by simp [Array.getD, hi]

theorem closed_set {listed : Array Bool} (hc : Closed ops listed) {i : Nat} (hi : i < listed.size) (h : ∀ j ∈ waits ops i, listed.getD j false = true) : Closed ops (listed.setIfInBounds i true) := by
  intro k hk j hj
  have h2 : listed.getD j false = true := by
    rw [set_get hi] at hk
    by_cases e : k = i
    · subst e; exact h j hj
    · rw [if_neg e] at hk; exact hc k hk j hj
  rw [set_get hi]
  split
  · rfl
  · exact h2

theorem wp_tail {m : Nat} (htl : tailOk ops m = true) : ∀ (r fuel k : Nat) (listed : Array Bool) (a : Act) (w : World), k + r = ops.size → m ≤ k → listed.size = ops.size → (∀ i, i < ops.size → listed.getD i false = decide (i < k)) → Closed ops listed → r ≤ fuel →
    wpList P ops Q (ops.toList.drop k) a w → wpAny P .any ops Q fuel listed a w := by
  intro r
  induction r with
  | zero =>
    intro fuel k listed a w hk _ hs hl _ _ h
    rw [List.drop_of_length_le (by simp; omega)] at h
    have hq : Q .normal a w := h
    have hnr : ∀ i, ¬ i ∈ Region.ready .any ops listed := by
      intro i hi
      obtain ⟨h1, h2, _⟩ := ready_of hi
      rw [getD_ft (by omega), hl i h1] at h2
      simp at h2; omega
    cases fuel with
    | zero => exact ⟨List.eq_nil_iff_forall_not_mem.2 hnr, hq⟩
    | succ fuel => exact ⟨fun _ => hq, fun i hi => absurd hi (hnr i)⟩
  | succ r ih =>
    intro fuel k listed a w hk hmk hs hl hcl hf h
    obtain ⟨fuel, rfl⟩ : ∃ f, fuel = f + 1 := ⟨fuel - 1, by omega⟩
    have hkn : k < ops.size := by omega
    have ho : ops[k]? = some ops[k] := Array.getElem?_eq_getElem hkn
    have tailAt : ∀ i, m ≤ i → ∀ o, ops[i]? = some o → (∀ x ∈ o.after, Region.binds .any x = true → x.on < i) ∧ ((∀ x ∈ o.after, Region.binds .any x = true → listed.getD x.on false = true) → ∀ j, j < i → listed.getD j false = true) := by
      intro i hmi o hoi
      have hin : i < ops.size := (Array.getElem?_eq_some_iff.1 hoi).1
      have h1 := List.all_eq_true.1 htl i (List.mem_range.2 hin)
      simp only [Bool.or_eq_true, decide_eq_true_eq, Bool.and_eq_true] at h1
      rcases h1 with h1 | h1
      · omega
      · refine ⟨fun x hx hb => ?_, fun hd j hj => ?_⟩
        · have := List.all_eq_true.1 h1.1 x.on ((mem_waits hoi).2 ⟨x, hx, rfl, hb⟩)
          simpa using this
        · have h2 := List.all_eq_true.1 h1.2 j (List.mem_range.2 hj)
          refine down_in hcl i _ (fun q hq => ?_) j (by simpa using h2)
          obtain ⟨x, hx, rfl, hb⟩ := (mem_waits hoi).1 hq
          exact hd x hx hb
    have hkr : k ∈ Region.ready .any ops listed := by
      refine ready_in hkn (by rw [getD_ft (by omega), hl k hkn]; simp) fun o hok x hx hb => ?_
      have := (tailAt k hmk o hok).1 x hx hb
      rw [hl _ (by omega)]; simpa using this
    refine ⟨fun hr => absurd hkr (by rw [hr]; simp), fun i hi => ?_⟩
    obtain ⟨h1, h2, h3⟩ := ready_of hi
    rw [getD_ft (by omega), hl i h1] at h2
    simp at h2
    have hik : i = k := by
      refine Classical.byContradiction fun hne => ?_
      have := (tailAt i (by omega) _ (Array.getElem?_eq_getElem h1)).2 (h3 _ (Array.getElem?_eq_getElem h1)) k (by omega)
      rw [hl k hkn] at this
      simp at this
    subst hik
    have hd : ops.toList.drop i = ops[i] :: ops.toList.drop (i + 1) := by
      rw [List.drop_eq_getElem_cons (by simpa using hkn)]
      simp
    rw [hd] at h
    have h' : wpOp P ops Q i (wpList P ops Q (ops.toList.drop (i + 1))) a w := by
      unfold wpOp
      rw [ho]
      exact h
    refine wpOp_mono (fun a w hw => ih fuel (i + 1) _ a w (by omega) (by omega) (by simpa using hs) (fun j hj => ?_) (closed_set hcl (by omega) (fun j hj => ?_)) (by omega) hw) h'
    · rw [set_get (by omega)]
      by_cases e : j = i
      · subst e; simp
      · rw [if_neg e, hl j hj]
        by_cases hlt : j < i
        · simp [hlt]; omega
        · simp [hlt]; omega
    · obtain ⟨x, hx, rfl, hb⟩ := (mem_waits (Array.getElem?_eq_getElem h1)).1 hj
      exact h3 _ (Array.getElem?_eq_getElem h1) x hx hb

/-- **A region whose order is open**: of the first m operations each yields what a relation tells, which what the others do keeps; what is left is walked as it stands. -/
theorem wp_region_phases {id : Nat} {w : World} (m : Nat) (hmo : P.follows .mixedOrders = true) (R : World → Prop) (T : World → World → Prop) (Pv : Nat → Value → World → Prop) (fin : (Nat → Value) → Act)
    (hm : m ≤ ops.size) (hd : depsTo ops m = true) (hdd : dstsOk (ops.extract 0 m) = true) (htl : tailOk ops m = true)
    (hfin : ∀ f, (fin f).tmps = putF f 0 (ops.toList.take m) a0.tmps) (hdf : ∀ f, (fin f).defers = a0.defers)
    (hk : ∀ i v a b, T a b → Pv i v a → Pv i v b) (h0 : R w.drew)
    (hstep : ∀ (f : Nat → Value) (w : World), R w → StepsF P Q R T Pv fin f w 0 (ops.toList.take m))
    (htail : ∀ (f : Nat → Value) (w : World), R w → (∀ i, i < m → Pv i (f i) w) → wpList P ops Q (ops.toList.drop m) (fin f) w) :
    (Code.region id ops true).wp P Q a0 w := by
  have hget : ∀ i, i < m → (ops.extract 0 m)[i]? = ops[i]? := by
    intro i hi
    rw [Array.getElem?_extract, if_pos (by omega)]
    simp
  have hget2 : ∀ (i : Nat) (o : Oper), (ops.extract 0 m)[i]? = some o → i < m ∧ ops[i]? = some o := by
    intro i o h
    have := (Array.getElem?_eq_some_iff.1 h).1
    simp at this
    exact ⟨by omega, by rw [← hget i (by omega)]; exact h⟩
  have hfin' : ∀ f, (fin f).tmps = putF f 0 (ops.extract 0 m).toList a0.tmps := by
    intro f
    rw [hfin f]
    congr 1
    simp
  have full : ∀ (f : Nat → Value) (listed : Array Bool) (a : Act), listed.size = ops.size → (∀ i, i < m → listed.getD i false = true) → MidF (ops.extract 0 m) a0 f listed a → a = fin f := by
    intro f listed a hs hl hmid
    have : a.tmps = (fin f).tmps := by
      apply Array.ext_getElem?
      intro t
      refine hmid.at hdd (hfin' f) t ?_
      by_cases hw : ∃ (j : Nat) (o' : Oper), (ops.extract 0 m)[j]? = some o' ∧ o'.dst = some t
      · obtain ⟨j, o', hj, hod⟩ := hw
        exact .inr ⟨j, o', hj, hod, hl j (hget2 j o' hj).1⟩
      · exact .inl fun j o' hj hod => hw ⟨j, o', hj, hod⟩
    have h2 := hmid.defers
    have h3 := hdf f
    revert this h2 h3
    generalize fin f = g
    cases a; cases g
    intro h1 h2 h3
    simp only at h1 h2 h3
    rw [h1, h2, h3]
  have main : ∀ (fuel : Nat) (listed : Array Bool) (f : Nat → Value) (a : Act) (w : World), listed.size = ops.size → (∀ i, m ≤ i → i < ops.size → listed.getD i false = false) → Closed ops listed → (∀ l : List Nat, l.Nodup → (∀ i ∈ l, i < ops.size ∧ listed.getD i true = false) → l.length ≤ fuel) →
      MidF (ops.extract 0 m) a0 f listed a → R w → (∀ i, i < m → listed.getD i false = true → Pv i (f i) w) → wpAny P .any ops Q fuel listed a w := by
    intro fuel
    induction fuel with
    | zero =>
      intro listed f a w hs hge hcl hf hmid hR hPv
      have hl : ∀ i, i < ops.size → listed.getD i false = true := by
        intro i hi
        cases h : listed.getD i true with
        | true => rw [← getD_ft (by omega)]; exact h
        | false =>
          have := hf [i] (by simp) (fun j hj => by rw [List.mem_singleton.1 hj]; exact ⟨hi, h⟩)
          simp at this
      have hmn : m = ops.size := by
        refine Classical.byContradiction fun hne => ?_
        have h1 := hge m (Nat.le_refl m) (by omega)
        rw [hl m (by omega)] at h1
        cases h1
      have ha := full f listed a hs (fun i hi => hl i (by omega)) hmid
      subst ha
      refine wp_tail htl 0 0 ops.size listed _ w (by omega) (by omega) hs (fun i hi => by rw [hl i hi]; simp [hi]) hcl (Nat.le_refl _) ?_
      have := htail f w hR (fun i hi => hPv i hi (hl i (by omega)))
      rwa [hmn] at this
    | succ fuel ih =>
      intro listed f a w hs hge hcl hf hmid hR hPv
      by_cases hall : ∀ i, i < m → listed.getD i false = true
      · have ha := full f listed a hs hall hmid
        subst ha
        refine wp_tail htl (ops.size - m) (fuel + 1) m listed _ w (by omega) (Nat.le_refl _) hs (fun i hi => ?_) hcl ?_ (htail f w hR (fun i hi => hPv i hi (hall i hi)))
        · by_cases him : i < m
          · rw [hall i him]; simp [him]
          · rw [hge i (by omega) hi]; simp [him]
        · have := hf ((List.range (ops.size - m)).map (m + ·)) (by
            unfold List.Nodup
            rw [List.pairwise_map]
            exact List.nodup_range.imp (fun h e => h (by omega))) (fun i hi => by
            obtain ⟨j, hj, rfl⟩ := List.mem_map.1 hi
            have := List.mem_range.1 hj
            exact ⟨by omega, by rw [getD_ft (by omega)]; exact hge _ (by omega) (by omega)⟩)
          simpa using this
      · -- one of the first is left: it is ready, or one that it waits for
        have hno : ∃ i, i < m ∧ listed.getD i false = false := by
          refine Classical.byContradiction fun hn => hall fun i hi => ?_
          cases h : listed.getD i false with
          | true => rfl
          | false => exact absurd ⟨i, hi, h⟩ hn
        have hsome : Region.ready .any ops listed ≠ [] := by
          obtain ⟨i0, hi0, h0'⟩ := hno
          intro hr
          have : ∀ i, i < m → listed.getD i false = true := by
            intro i
            induction i using Nat.strongRecOn with
            | _ i ihi =>
              intro hi
              cases hl : listed.getD i false with
              | true => rfl
              | false =>
                exfalso
                have hin : i ∈ Region.ready .any ops listed := by
                  refine ready_in (by omega) (by rw [getD_ft (by omega)]; exact hl) fun o ho x hx hb => ?_
                  have h1 := List.all_eq_true.1 hd i (List.mem_range.2 hi)
                  simp only [ho, Bool.and_eq_true] at h1
                  have h2 := Array.all_eq_true'.1 h1.1.1.1 x hx
                  have h3 : x.on < i := by simpa [hb] using h2
                  exact ihi x.on h3 (by omega)
                rw [hr] at hin
                cases hin
          rw [this i0 hi0] at h0'
          cases h0'
        refine ⟨fun hr => absurd hr hsome, fun i hi => ?_⟩
        obtain ⟨hlt, hun, hdeps⟩ := ready_of hi
        have ho : ops[i]? = some ops[i] := Array.getElem?_eq_getElem hlt
        replace hdeps := hdeps _ ho
        have hil : i < listed.size := by omega
        have him : i < m := by
          refine Classical.byContradiction fun hn => ?_
          have h1 := List.all_eq_true.1 htl i (List.mem_range.2 hlt)
          simp only [Bool.or_eq_true, decide_eq_true_eq, Bool.and_eq_true] at h1
          obtain ⟨i0, hi0, h0'⟩ := hno
          rcases h1 with h1 | h1
          · omega
          · have h2 := List.all_eq_true.1 h1.2 i0 (List.mem_range.2 (by omega))
            have := down_in hcl i _ (fun q hq => by
              obtain ⟨x, hx, rfl, hb⟩ := (mem_waits ho).1 hq
              exact hdeps x hx hb) i0 (by simpa using h2)
            rw [h0'] at this
            cases this
        have hf' : ∀ l : List Nat, l.Nodup → (∀ j ∈ l, j < ops.size ∧ (listed.setIfInBounds i true).getD j true = false) → l.length ≤ fuel := by
          intro l hnd hl
          have hni : i ∉ l := by
            intro hmem
            have := (hl i hmem).2
            rw [set_get hil] at this
            simp at this
          have := hf (i :: l) (List.nodup_cons.2 ⟨hni, hnd⟩) (by
            intro j hj
            rcases List.mem_cons.1 hj with rfl | hj
            · exact ⟨hlt, hun⟩
            · obtain ⟨h1, h2⟩ := hl j hj
              refine ⟨h1, ?_⟩
              have hne : j ≠ i := fun e => hni (e ▸ hj)
              rw [set_get hil, if_neg hne] at h2
              exact h2)
          simp at this
          omega
        have hdi := List.all_eq_true.1 hd i (List.mem_range.2 him)
        simp only [ho, Bool.and_eq_true] at hdi
        have hlook : ∀ t ∈ ops[i].looksAt ops, a.tmps[t]? = (fin f).tmps[t]? := by
          intro t ht
          refine hmid.at hdd (hfin' f) t ?_
          by_cases hw : ∃ (j : Nat) (o' : Oper), (ops.extract 0 m)[j]? = some o' ∧ o'.dst = some t
          · obtain ⟨j, o', hj, hod⟩ := hw
            obtain ⟨hjm, hj'⟩ := hget2 j o' hj
            refine .inr ⟨j, o', hj, hod, ?_⟩
            have h2 := List.all_eq_true.1 hdi.2 t ht
            have h3 := List.all_eq_true.1 h2 j (List.mem_range.2 hjm)
            simp only [hj', hod, bne_self_eq_false, Bool.false_or] at h3
            obtain ⟨e, he, heq⟩ := Array.any_eq_true'.1 h3
            simp only [Bool.and_eq_true, beq_iff_eq] at heq
            have := hdeps e he heq.2
            rwa [heq.1] at this
          · exact .inl fun j o' hj hod => hw ⟨j, o', hj, hod⟩
        have he : execOp a.eval ops[i] = execOp (fin f).eval ops[i] := by
          refine execOp_congr ops[i] ?_ ?_
          · intro cs b hc
            have h1 := hdi.1.1.2
            simp [hc] at h1
          · intro x hx
            cases x with
            | tmp t =>
              have ht : t ∈ ops[i].looksAt ops := by
                unfold Oper.looksAt
                refine List.mem_append.2 (.inl ?_)
                exact List.mem_filterMap.2 ⟨.tmp t, by simpa using hx, rfl⟩
              have := hlook t ht
              simp only [Act.eval, Array.getD_eq_getD_getElem?, this]
            | _ => rfl
        have hg : ops[i].guard = none := by
          have := hdi.1.2
          simpa using this
        unfold wpOp
        rw [ho]
        simp only [Region.wanted, hg, if_true]
        left
        unfold Oper.wp
        rw [he]
        have hdt : (ops.toList.take m)[i]? = some ops[i] := by
          rw [List.getElem?_take, if_pos him]
          simp
        have hst := stepsF_at (P := P) (Q := Q) (R := R) (T := T) (Pv := Pv) (fin := fin) (f := f) (w := w) _ 0 i _ hdt (hstep f w hR)
        rw [Nat.zero_add] at hst
        refine hst (afterAll_of _ fun x hx hb => ?_) a _ fun v w' h1 h2 h3 => ?_
        · have hx' : x ∈ ops[i].after := by simpa using hx
          have h4 := Array.all_eq_true'.1 hdi.1.1.1 x hx'
          have h5 : x.on < i := by simpa [hb] using h4
          exact hPv x.on (by omega) (hdeps x hx' hb)
        · refine ih _ (updF f i v) _ w' (by simpa using hs) (fun j hj1 hj2 => ?_) (closed_set hcl hil (fun j hj => by
            obtain ⟨x, hx, rfl, hb⟩ := (mem_waits ho).1 hj
            exact hdeps x hx hb)) hf' (hmid.put (hget i him ▸ ho) hil hdd v) h1 (fun j hj hl => ?_)
          · rw [set_get hil, if_neg (by omega)]
            exact hge j hj1 hj2
          · by_cases e : j = i
            · subst e
              unfold updF; rw [if_pos rfl]; exact h3
            · rw [set_get hil, if_neg e] at hl
              unfold updF; rw [if_neg e]
              exact hk _ _ _ _ h2 (hPv j hj hl)
  refine wp_region_any hmo (main ops.size _ (fun _ => undef) a0 _ (by simp) (fun i _ _ => ?_) (fun i hi => ?_) ?_ ?_ h0 (fun i hi hl => ?_))
  · by_cases h : i < ops.size <;> simp [h]
  · have : (Array.replicate ops.size false).getD i false = false := by
      by_cases h : i < ops.size <;> simp [h]
    rw [this] at hi; cases hi
  · intro l hnd hl
    exact nodup_le ops.size l hnd (fun i hi => (hl i hi).1)
  · exact ⟨rfl, rfl, fun j o d ho hd hl => by
      have : (Array.replicate ops.size false).getD j false = false := by
        by_cases h : j < ops.size <;> simp [h]
      rw [this] at hl; exact absurd hl (by simp), fun _ _ => rfl⟩
  · have : (Array.replicate ops.size false).getD i false = false := by
      by_cases h : i < ops.size <;> simp [h]
    rw [this] at hl; cases hl
/-- The same: the frame is made out of the one that stands. -/
theorem wp_region_auto {id : Nat} {w : World} (m : Nat) (hmo : P.follows .mixedOrders = true) (R : World → Prop) (T : World → World → Prop) (Pv : Nat → Value → World → Prop) (fin : (Nat → Value) → Act)
    (hfin : ∀ f, ({ tmps := putF f 0 (ops.toList.take m) a0.tmps, defers := a0.defers } : Act) = fin f)
    (hm : m ≤ ops.size) (hd : depsTo ops m = true) (hdd : dstsOk (ops.extract 0 m) = true) (htl : tailOk ops m = true)
    (hk : ∀ i v a b, T a b → Pv i v a → Pv i v b) (h0 : R w.drew)
    (hstep : ∀ (f : Nat → Value) (w : World), R w → StepsF P Q R T Pv fin f w 0 (ops.toList.take m))
    (htail : ∀ (f : Nat → Value) (w : World), R w → (∀ i, i < m → Pv i (f i) w) → wpList P ops Q (ops.toList.drop m) (fin f) w) :
    (Code.region id ops true).wp P Q a0 w :=
  wp_region_phases m hmo R T Pv fin hm hd hdd htl (fun f => by rw [← hfin f]) (fun f => by rw [← hfin f]) hk h0 hstep htail
/-- Each of the operations takes its step, or is passed over. -/
def StepsG (P : Program) (ops : Array Oper) (Q : Exit → Act → World → Prop) (R : World → Prop) (T : World → World → Prop) (Pv : Nat → Value → World → Prop) (fin : (Nat → Value) → Act) (f : Nat → Value) (w : World) : Nat → List Oper → Prop
  | _, [] => True
  | i, o :: r => (AfterAll Pv f w o.after.toList → ∀ (a : Act) (K : Act → World → Prop), (∀ v w', R w' → T w w' → Pv i v w' → K (a.put o.dst v) w') → if Region.wanted o (yielded ops (fin f).tmps) then o.upon P a K Q ((execOp (fin f).eval o).run P w) else K (a.put o.dst undef) w) ∧ StepsG P ops Q R T Pv fin f w (i + 1) r
theorem stepsG_at {R : World → Prop} {T : World → World → Prop} {Pv : Nat → Value → World → Prop} {fin : (Nat → Value) → Act} {f : Nat → Value} {w : World} : ∀ (l : List Oper) (k i : Nat) (o : Oper), l[i]? = some o → StepsG P ops Q R T Pv fin f w k l →
    (AfterAll Pv f w o.after.toList → ∀ (a : Act) (K : Act → World → Prop), (∀ v w', R w' → T w w' → Pv (k + i) v w' → K (a.put o.dst v) w') → if Region.wanted o (yielded ops (fin f).tmps) then o.upon P a K Q ((execOp (fin f).eval o).run P w) else K (a.put o.dst undef) w)
  | [], _, _, _, h, _ => by simp at h
  | o' :: r, k, 0, o, h, hs => by simp at h; subst h; exact hs.1
  | o' :: r, k, i + 1, o, h, hs => by
    simp at h
    have := stepsG_at r (k + 1) i o h hs.2
    rwa [show k + 1 + i = k + (i + 1) by omega] at this
/-- What the first m operations look at, their guards too: nothing that another one of them writes, but behind it. -/
def depsG (ops : Array Oper) (m : Nat) : Bool :=
  (List.range m).all fun i => match ops[i]? with
    | none => true
    | some o => (o.after.all fun e => !Region.binds .any e || decide (e.on < i)) && (match o.op with | .select .. => false | _ => true) &&
      ((o.looksAt ops).all fun t => (List.range m).all fun j => match ops[j]? with
        | none => true
        | some o' => (o'.dst != some t) || (o.after.any fun e => e.on == j && Region.binds .any e))
/-- **A region whose order is open**: of the first m operations each yields what a relation tells, which what the others do keeps; what is left is walked as it stands. -/
theorem wp_region_guards {id : Nat} {w : World} (m : Nat) (hmo : P.follows .mixedOrders = true) (R : World → Prop) (T : World → World → Prop) (Pv : Nat → Value → World → Prop) (fin : (Nat → Value) → Act)
    (hm : m ≤ ops.size) (hd : depsG ops m = true) (hdd : dstsOk (ops.extract 0 m) = true) (htl : tailOk ops m = true)
    (hfin : ∀ f, (fin f).tmps = putF f 0 (ops.toList.take m) a0.tmps) (hdf : ∀ f, (fin f).defers = a0.defers)
    (hk : ∀ i v a b, T a b → Pv i v a → Pv i v b) (h0 : R w.drew)
    (hstep : ∀ (f : Nat → Value) (w : World), R w → StepsG P ops Q R T Pv fin f w 0 (ops.toList.take m))
    (htail : ∀ (f : Nat → Value) (w : World), R w → (∀ i, i < m → Pv i (f i) w) → wpList P ops Q (ops.toList.drop m) (fin f) w) :
    (Code.region id ops true).wp P Q a0 w := by
  have hget : ∀ i, i < m → (ops.extract 0 m)[i]? = ops[i]? := by
    intro i hi
    rw [Array.getElem?_extract, if_pos (by omega)]
    simp
  have hget2 : ∀ (i : Nat) (o : Oper), (ops.extract 0 m)[i]? = some o → i < m ∧ ops[i]? = some o := by
    intro i o h
    have := (Array.getElem?_eq_some_iff.1 h).1
    simp at this
    exact ⟨by omega, by rw [← hget i (by omega)]; exact h⟩
  have hfin' : ∀ f, (fin f).tmps = putF f 0 (ops.extract 0 m).toList a0.tmps := by
    intro f
    rw [hfin f]
    congr 1
    simp
  have full : ∀ (f : Nat → Value) (listed : Array Bool) (a : Act), listed.size = ops.size → (∀ i, i < m → listed.getD i false = true) → MidF (ops.extract 0 m) a0 f listed a → a = fin f := by
    intro f listed a hs hl hmid
    have : a.tmps = (fin f).tmps := by
      apply Array.ext_getElem?
      intro t
      refine hmid.at hdd (hfin' f) t ?_
      by_cases hw : ∃ (j : Nat) (o' : Oper), (ops.extract 0 m)[j]? = some o' ∧ o'.dst = some t
      · obtain ⟨j, o', hj, hod⟩ := hw
        exact .inr ⟨j, o', hj, hod, hl j (hget2 j o' hj).1⟩
      · exact .inl fun j o' hj hod => hw ⟨j, o', hj, hod⟩
    have h2 := hmid.defers
    have h3 := hdf f
    revert this h2 h3
    generalize fin f = g
    cases a; cases g
    intro h1 h2 h3
    simp only at h1 h2 h3
    rw [h1, h2, h3]
  have main : ∀ (fuel : Nat) (listed : Array Bool) (f : Nat → Value) (a : Act) (w : World), listed.size = ops.size → (∀ i, m ≤ i → i < ops.size → listed.getD i false = false) → Closed ops listed → (∀ l : List Nat, l.Nodup → (∀ i ∈ l, i < ops.size ∧ listed.getD i true = false) → l.length ≤ fuel) →
      MidF (ops.extract 0 m) a0 f listed a → R w → (∀ i, i < m → listed.getD i false = true → Pv i (f i) w) → wpAny P .any ops Q fuel listed a w := by
    intro fuel
    induction fuel with
    | zero =>
      intro listed f a w hs hge hcl hf hmid hR hPv
      have hl : ∀ i, i < ops.size → listed.getD i false = true := by
        intro i hi
        cases h : listed.getD i true with
        | true => rw [← getD_ft (by omega)]; exact h
        | false =>
          have := hf [i] (by simp) (fun j hj => by rw [List.mem_singleton.1 hj]; exact ⟨hi, h⟩)
          simp at this
      have hmn : m = ops.size := by
        refine Classical.byContradiction fun hne => ?_
        have h1 := hge m (Nat.le_refl m) (by omega)
        rw [hl m (by omega)] at h1
        cases h1
      have ha := full f listed a hs (fun i hi => hl i (by omega)) hmid
      subst ha
      refine wp_tail htl 0 0 ops.size listed _ w (by omega) (by omega) hs (fun i hi => by rw [hl i hi]; simp [hi]) hcl (Nat.le_refl _) ?_
      have := htail f w hR (fun i hi => hPv i hi (hl i (by omega)))
      rwa [hmn] at this
    | succ fuel ih =>
      intro listed f a w hs hge hcl hf hmid hR hPv
      by_cases hall : ∀ i, i < m → listed.getD i false = true
      · have ha := full f listed a hs hall hmid
        subst ha
        refine wp_tail htl (ops.size - m) (fuel + 1) m listed _ w (by omega) (Nat.le_refl _) hs (fun i hi => ?_) hcl ?_ (htail f w hR (fun i hi => hPv i hi (hall i hi)))
        · by_cases him : i < m
          · rw [hall i him]; simp [him]
          · rw [hge i (by omega) hi]; simp [him]
        · have := hf ((List.range (ops.size - m)).map (m + ·)) (by
            unfold List.Nodup
            rw [List.pairwise_map]
            exact List.nodup_range.imp (fun h e => h (by omega))) (fun i hi => by
            obtain ⟨j, hj, rfl⟩ := List.mem_map.1 hi
            have := List.mem_range.1 hj
            exact ⟨by omega, by rw [getD_ft (by omega)]; exact hge _ (by omega) (by omega)⟩)
          simpa using this
      · -- one of the first is left: it is ready, or one that it waits for
        have hno : ∃ i, i < m ∧ listed.getD i false = false := by
          refine Classical.byContradiction fun hn => hall fun i hi => ?_
          cases h : listed.getD i false with
          | true => rfl
          | false => exact absurd ⟨i, hi, h⟩ hn
        have hsome : Region.ready .any ops listed ≠ [] := by
          obtain ⟨i0, hi0, h0'⟩ := hno
          intro hr
          have : ∀ i, i < m → listed.getD i false = true := by
            intro i
            induction i using Nat.strongRecOn with
            | _ i ihi =>
              intro hi
              cases hl : listed.getD i false with
              | true => rfl
              | false =>
                exfalso
                have hin : i ∈ Region.ready .any ops listed := by
                  refine ready_in (by omega) (by rw [getD_ft (by omega)]; exact hl) fun o ho x hx hb => ?_
                  have h1 := List.all_eq_true.1 hd i (List.mem_range.2 hi)
                  simp only [ho, Bool.and_eq_true] at h1
                  have h2 := Array.all_eq_true'.1 h1.1.1 x hx
                  have h3 : x.on < i := by simpa [hb] using h2
                  exact ihi x.on h3 (by omega)
                rw [hr] at hin
                cases hin
          rw [this i0 hi0] at h0'
          cases h0'
        refine ⟨fun hr => absurd hr hsome, fun i hi => ?_⟩
        obtain ⟨hlt, hun, hdeps⟩ := ready_of hi
        have ho : ops[i]? = some ops[i] := Array.getElem?_eq_getElem hlt
        replace hdeps := hdeps _ ho
        have hil : i < listed.size := by omega
        have him : i < m := by
          refine Classical.byContradiction fun hn => ?_
          have h1 := List.all_eq_true.1 htl i (List.mem_range.2 hlt)
          simp only [Bool.or_eq_true, decide_eq_true_eq, Bool.and_eq_true] at h1
          obtain ⟨i0, hi0, h0'⟩ := hno
          rcases h1 with h1 | h1
          · omega
          · have h2 := List.all_eq_true.1 h1.2 i0 (List.mem_range.2 (by omega))
            have := down_in hcl i _ (fun q hq => by
              obtain ⟨x, hx, rfl, hb⟩ := (mem_waits ho).1 hq
              exact hdeps x hx hb) i0 (by simpa using h2)
            rw [h0'] at this
            cases this
        have hf' : ∀ l : List Nat, l.Nodup → (∀ j ∈ l, j < ops.size ∧ (listed.setIfInBounds i true).getD j true = false) → l.length ≤ fuel := by
          intro l hnd hl
          have hni : i ∉ l := by
            intro hmem
            have := (hl i hmem).2
            rw [set_get hil] at this
            simp at this
          have := hf (i :: l) (List.nodup_cons.2 ⟨hni, hnd⟩) (by
            intro j hj
            rcases List.mem_cons.1 hj with rfl | hj
            · exact ⟨hlt, hun⟩
            · obtain ⟨h1, h2⟩ := hl j hj
              refine ⟨h1, ?_⟩
              have hne : j ≠ i := fun e => hni (e ▸ hj)
              rw [set_get hil, if_neg hne] at h2
              exact h2)
          simp at this
          omega
        have hdi := List.all_eq_true.1 hd i (List.mem_range.2 him)
        simp only [ho, Bool.and_eq_true] at hdi
        have hlook : ∀ t ∈ ops[i].looksAt ops, a.tmps[t]? = (fin f).tmps[t]? := by
          intro t ht
          refine hmid.at hdd (hfin' f) t ?_
          by_cases hw : ∃ (j : Nat) (o' : Oper), (ops.extract 0 m)[j]? = some o' ∧ o'.dst = some t
          · obtain ⟨j, o', hj, hod⟩ := hw
            obtain ⟨hjm, hj'⟩ := hget2 j o' hj
            refine .inr ⟨j, o', hj, hod, ?_⟩
            have h2 := List.all_eq_true.1 hdi.2 t ht
            have h3 := List.all_eq_true.1 h2 j (List.mem_range.2 hjm)
            simp only [hj', hod, bne_self_eq_false, Bool.false_or] at h3
            obtain ⟨e, he, heq⟩ := Array.any_eq_true'.1 h3
            simp only [Bool.and_eq_true, beq_iff_eq] at heq
            have := hdeps e he heq.2
            rwa [heq.1] at this
          · exact .inl fun j o' hj hod => hw ⟨j, o', hj, hod⟩
        have he : execOp a.eval ops[i] = execOp (fin f).eval ops[i] := by
          refine execOp_congr ops[i] ?_ ?_
          · intro cs b hc
            have h1 := hdi.1.2
            simp [hc] at h1
          · intro x hx
            cases x with
            | tmp t =>
              have ht : t ∈ ops[i].looksAt ops := by
                unfold Oper.looksAt
                refine List.mem_append.2 (.inl ?_)
                exact List.mem_filterMap.2 ⟨.tmp t, by simpa using hx, rfl⟩
              have := hlook t ht
              simp only [Act.eval, Array.getD_eq_getD_getElem?, this]
            | _ => rfl
        have hwt : Region.wanted ops[i] (yielded ops a.tmps) = Region.wanted ops[i] (yielded ops (fin f).tmps) := by
          unfold Region.wanted
          cases hg : ops[i].guard with
          | none => rfl
          | some g =>
            obtain ⟨j, want⟩ := g
            simp only [yielded]
            cases hj : (ops[j]?).bind (·.dst) with
            | none => rfl
            | some t =>
              have : t ∈ ops[i].looksAt ops := by simp [Oper.looksAt, hg, hj]
              simp [hlook t this]
        unfold wpOp
        rw [ho]
        simp only [hwt]
        have hdt : (ops.toList.take m)[i]? = some ops[i] := by
          rw [List.getElem?_take, if_pos him]
          simp
        have hst := stepsG_at (ops := ops) (P := P) (Q := Q) (R := R) (T := T) (Pv := Pv) (fin := fin) (f := f) (w := w) _ 0 i _ hdt (hstep f w hR)
        rw [Nat.zero_add] at hst
        have hst2 := hst (afterAll_of _ fun x hx hb => ?_) a (wpAny P .any ops Q fuel (listed.setIfInBounds i true)) fun v w' h1 h2 h3 => ?_
        · by_cases hw : Region.wanted ops[i] (yielded ops (fin f).tmps) = true
          · rw [if_pos hw] at hst2 ⊢
            left
            unfold Oper.wp
            rw [he]
            exact hst2
          · rw [if_neg hw] at hst2 ⊢
            exact hst2
        · have hx' : x ∈ ops[i].after := by simpa using hx
          have h4 := Array.all_eq_true'.1 hdi.1.1 x hx'
          have h5 : x.on < i := by simpa [hb] using h4
          exact hPv x.on (by omega) (hdeps x hx' hb)
        · refine ih _ (updF f i v) _ w' (by simpa using hs) (fun j hj1 hj2 => ?_) (closed_set hcl hil (fun j hj => by
            obtain ⟨x, hx, rfl, hb⟩ := (mem_waits ho).1 hj
            exact hdeps x hx hb)) hf' (hmid.put (hget i him ▸ ho) hil hdd v) h1 (fun j hj hl => ?_)
          · rw [set_get hil, if_neg (by omega)]
            exact hge j hj1 hj2
          · by_cases e : j = i
            · subst e
              unfold updF; rw [if_pos rfl]; exact h3
            · rw [set_get hil, if_neg e] at hl
              unfold updF; rw [if_neg e]
              exact hk _ _ _ _ h2 (hPv j hj hl)
  refine wp_region_any hmo (main ops.size _ (fun _ => undef) a0 _ (by simp) (fun i _ _ => ?_) (fun i hi => ?_) ?_ ?_ h0 (fun i hi hl => ?_))
  · by_cases h : i < ops.size <;> simp [h]
  · have : (Array.replicate ops.size false).getD i false = false := by
      by_cases h : i < ops.size <;> simp [h]
    rw [this] at hi; cases hi
  · intro l hnd hl
    exact nodup_le ops.size l hnd (fun i hi => (hl i hi).1)
  · exact ⟨rfl, rfl, fun j o d ho hd hl => by
      have : (Array.replicate ops.size false).getD j false = false := by
        by_cases h : j < ops.size <;> simp [h]
      rw [this] at hl; exact absurd hl (by simp), fun _ _ => rfl⟩
  · have : (Array.replicate ops.size false).getD i false = false := by
      by_cases h : i < ops.size <;> simp [h]
    rw [this] at hl; cases hl
/-- The same: the frame is made out of the one that stands. -/
theorem wp_region_gauto {id : Nat} {w : World} (m : Nat) (hmo : P.follows .mixedOrders = true) (R : World → Prop) (T : World → World → Prop) (Pv : Nat → Value → World → Prop) (fin : (Nat → Value) → Act)
    (hfin : ∀ f, ({ tmps := putF f 0 (ops.toList.take m) a0.tmps, defers := a0.defers } : Act) = fin f)
    (hm : m ≤ ops.size) (hd : depsG ops m = true) (hdd : dstsOk (ops.extract 0 m) = true) (htl : tailOk ops m = true)
    (hk : ∀ i v a b, T a b → Pv i v a → Pv i v b) (h0 : R w.drew)
    (hstep : ∀ (f : Nat → Value) (w : World), R w → StepsG P ops Q R T Pv fin f w 0 (ops.toList.take m))
    (htail : ∀ (f : Nat → Value) (w : World), R w → (∀ i, i < m → Pv i (f i) w) → wpList P ops Q (ops.toList.drop m) (fin f) w) :
    (Code.region id ops true).wp P Q a0 w :=
  wp_region_guards m hmo R T Pv fin hm hd hdd htl (fun f => by rw [← hfin f]) (fun f => by rw [← hfin f]) hk h0 hstep htail
end
end Go.Proofs.YtakldmbbmefnbaaGreat
/- the reference's words: Has (a byte), Step. -/
namespace Go.Proofs.YtakldmbbmefnbaaGreat
open Go.RowKit Go.Sort Go.Proofs
set_option maxRecDepth 100000
set_option maxHeartbeats 1000000

theorem rbit_ok (n : Nat) (hn : n < 64) (w : World) :
    Calls Tryz.prog 131 #[.int .i64 n] w (fun r w' => r = .returned (.int .u64 (2 ^ n : Nat)) ∧ w' = w) := by
  have hpow : ∀ k, k < n → 2 * ((2 ^ k : Nat) : Int) = (2 ^ (k + 1) : Nat) := by
    intro k _
    rw [Nat.pow_succ]; omega
  have hb : ∀ k, k ≤ n → 0 ≤ ((2 ^ k : Nat) : Int) ∧ ((2 ^ k : Nat) : Int) ≤ 9223372036854775808 := by
    intro k hk
    have h1 := Nat.pow_le_pow_right (n := 2) (by decide) (show k ≤ 63 by omega)
    have h2 : (2 : Nat) ^ 63 = 9223372036854775808 := by decide
    rw [h2] at h1
    generalize 2 ^ k = p at *
    omega
  have HP := Lib.hid (And.intro hpow hb)
  clear hpow hb
  go_enter Tryz.func131, Tryz.ntmps131
  go_wp2
  go_loop [5, 3] (fun i v => ∃ k : Nat, k ≤ n ∧ i = .int .i64 k ∧ v = .int .u64 (2 ^ k : Nat)) (fun i _ => n - (intOf i).toNat)
  case atStart => exact ⟨0, Nat.zero_le _, rfl, rfl⟩
  case round =>
    obtain ⟨k, hk, rfl, rfl⟩ := hrel
    by_cases hlt : k < n
    · have hi : (k : Int) < n := by omega
      have h1 := (HP.out.2 (k + 1) (by omega))
      have h2 := HP.out.1 k hlt
      generalize ((2 ^ k : Nat) : Int) = p at *
      generalize hqe : ((2 ^ (k + 1) : Nat) : Int) = q at *
      have HQ := Lib.hid hqe
      clear hqe
      obtain ⟨h0, h1⟩ := h1
      rw [← h2] at h0 h1
      have H2 := Lib.hid h2
      clear h2
      have hp0 : 0 ≤ p := by omega
      have hp1 : p ≤ 4611686018427387904 := by omega
      go_wp2
      go_round
      case rel => exact ⟨k + 1, by omega, by go_num, by rw [H2.out, HQ.out]⟩
      case measure => simp [intOf]; omega
    · have : k = n := by omega
      subst this
      clear HP
      go_wp2
      go_ret
      exact ⟨rfl, rfl⟩

theorem has_div (s : BSet) (b : Nat) : s.has b = decide ((s.word (b / 64)).toNat / 2 ^ (b % 64) % 2 = 1) := by
  unfold BSet.has
  rw [BitVec.getLsbD, Nat.testBit_eq_decide_div_mod_eq]

theorem rhasb_ok (s : BSet) (b : Nat) (hb : b < 256) (w : World) :
    Calls Tryz.prog 74 #[vS s, .int .i64 b] w (fun r w' => r = .returned (.bool (s.has b)) ∧ Below w.heap.size w w') := by
  obtain ⟨W1, hW1⟩ : ∃ W1, w.alloc (.cells #[.int .u64 s.w0.toNat, .int .u64 s.w1.toNat, .int .u64 s.w2.toNat, .int .u64 s.w3.toNat] 69) = W1 := ⟨_, rfl⟩
  have d1 : Below w.heap.size w W1 := hW1 ▸ alloc1 w _
  have b1 : W1.heap[w.heap.size]? = some (.cells #[.int .u64 s.w0.toNat, .int .u64 s.w1.toNat, .int .u64 s.w2.toNat, .int .u64 s.w3.toNat] 69 (0, 0)) := by rw [← hW1]; exact heap_alloc_new w _
  have hq : b / 64 < 4 := by omega
  have hr : b % 64 < 64 := by omega
  have hcell : W1.cell? ⟨w.heap.size, b / 64, none⟩ = some (.int .u64 ((s.word (b / 64)).toNat : Int)) := by
    rw [cell_at b1]
    have := word_at s (b / 64) hq
    simpa using this
  have hbit := fun W => rbit_ok (b % 64) hr W
  have hword := (s.word (b / 64)).isLt
  have hd := has_div s b
  have h1 : ((b : Int) / 64) = ((b / 64 : Nat) : Int) := by omega
  have h2 : ((b : Int) % 64) = ((b % 64 : Nat) : Int) := by omega
  have hpp : 0 < 2 ^ (b % 64) := Nat.pow_pos (by decide)
  have hpl : (2 ^ (b % 64) : Nat) ≤ 9223372036854775808 := by
    have h1 := Nat.pow_le_pow_right (n := 2) (by decide) (show b % 64 ≤ 63 by omega)
    have h2 : (2 : Nat) ^ 63 = 9223372036854775808 := by decide
    rw [h2] at h1
    exact h1
  generalize hW : (s.word (b / 64)).toNat = W0 at *
  generalize 2 ^ (b % 64) = P0 at *
  generalize hres : s.has b = res at *
  generalize b / 64 = bq at *
  generalize b % 64 = br at *
  have HD := Lib.hid hd
  have hbi : (b : Int) < 256 := by omega
  have e1 : IntKind.u64.wrap ((W0 : Int) / (P0 : Int)) = (W0 : Int) / (P0 : Int) := by
    refine IntWalk.u64_in _ ?_
    rw [← Int.natCast_ediv]
    have := Nat.div_le_self W0 P0
    generalize W0 / P0 = z at *
    omega
  clear hd hW hres hword
  unfold vS
  go_enter Tryz.func74, Tryz.ntmps74
  go_wp2
  go_quiet ((go_at_call 131; exact Calls.quiet_of_same (hbit _)))
  go_wp2
  have hfin : (((W0 : Int) / P0).tmod 2 == 1) = res := by
    rw [HD.out]
    have h : ((W0 : Int) / P0).tmod 2 = ((W0 / P0 % 2 : Nat) : Int) := by rw [← Int.natCast_ediv]; rfl
    rw [h, Bool.eq_iff_iff]
    simp
    omega
  go_ret
  exact ⟨congrArg (fun z => Ending.returned (.bool z)) hfin, below_drewN d1 _⟩
end Go.Proofs.YtakldmbbmefnbaaGreat
/- the reference's words: Step. -/
namespace Go.Proofs.YtakldmbbmefnbaaGreat
open Go.RowKit Go.Sort Go.Proofs
set_option maxRecDepth 100000
set_option maxHeartbeats 1000000

/-- Where the first edges lead by a byte. -/
def A.dests (a : A) (from_ : List Int) (b j : Nat) : List Int := ((a.edges.take j).filter (leads from_ b)).map (fun e => e.dst)
theorem dests_all (a : A) (from_ : List Int) (b : Nat) : a.dests from_ b a.edges.length = (a.edges.filter (leads from_ b)).map (fun e => e.dst) := by unfold A.dests; rw [List.take_length]
theorem dests_yes {a : A} {from_ : List Int} {b j : Nat} (h : j < a.edges.length) (hp : leads from_ b a.edges[j] = true) : a.dests from_ b (j + 1) = a.dests from_ b j ++ [a.edges[j].dst] := by
  unfold A.dests
  rw [List.take_succ_eq_append_getElem h, List.filter_append, List.map_append, List.filter_cons_of_pos hp]
  rfl
theorem dests_no {a : A} {from_ : List Int} {b j : Nat} (h : j < a.edges.length) (hp : leads from_ b a.edges[j] = false) : a.dests from_ b (j + 1) = a.dests from_ b j := by
  unfold A.dests
  rw [List.take_succ_eq_append_getElem h, List.filter_append, List.map_append, List.filter_cons_of_neg (by rw [hp]; decide)]
  simp
theorem leads_mark {n : Nat} {l : List Int} {b x : Nat} {y : Int} {f : Bool} {s : BSet} (hx : x < n) : leads l b ⟨x, y, f, s⟩ = (!f && (marks n l).getD x false && s.has b) := by
  unfold leads
  have h1 : l.any (fun z => (x : Int) == z) = (marks n l).getD x false := by
    rw [List.getD, marks_get l hx, Bool.eq_iff_iff]
    simp
  rw [h1]
  cases f <;> cases s.has b <;> simp

theorem rstep_ok (a : A) (vs vf ve vl : Value) (l : List Int) (by_ : Nat) (hby : by_ < 256) (w : World) (hfa : FaAt w w.heap.size a vs vf ve) (ha : Fit a) (hl : Ints w w.heap.size vl l) (hin : Inb a l) (hll : l.length ≤ 1000000) :
    Calls Tryz.prog 22 #[vA a vs vf ve, .int .i64 by_, vl] w (fun r w' => ∃ v', r = .returned v' ∧ Own encI 1 3 w' w.heap.size v' (a.step l by_) ∧ Below w.heap.size w w') := by
  obtain ⟨i2, hi2, hz2, hs2, hb2⟩ := info_parts info_bool
  obtain ⟨n, hn⟩ : ∃ n : Nat, a.states = n := ⟨a.states.toNat, by have := ha.ok; simp [A.ok] at this; omega⟩
  have hnn : n ≤ 1000 := by have := ha.n; omega
  have heb : ∀ e ∈ a.edges, (0 ≤ e.src ∧ e.src < n) ∧ 0 ≤ e.dst ∧ e.dst < n := fun e he => by have := edge_in ha he; omega
  have hcin : ∀ s ∈ a.clo l, 0 ≤ s ∧ s < n := fun s hs => by have := inb_clo ha l s hs; omega
  have hcl : (a.clo l).length ≤ 1000000 := Nat.le_trans (A.clo_len ha l) (by decide)
  obtain ⟨As, cs, rfl, hs1⟩ := id hfa.s
  obtain ⟨Af, cf, rfl, hs2'⟩ := id hfa.f
  obtain ⟨Ae, ce, rfl, hre⟩ := id hfa.e
  obtain ⟨A0, c0, rfl, hr⟩ := id hl
  have hel := ha.e
  have hB1 : i2.bytes * n ≤ 281474976710656 := by rw [hb2]; omega
  have hN : n ≤ 4611686018427387904 := by omega
  obtain ⟨W1, hW1⟩ : ∃ W1, w.alloc (.cells #[.int .i64 (n : Nat), .slice As a.start.length cs, .slice Af a.final.length cf, .slice Ae a.edges.length ce] 25) = W1 := ⟨_, rfl⟩
  have d1 : Below w.heap.size w W1 := hW1 ▸ alloc1 w _
  have b1 : W1.heap[w.heap.size]? = some (.cells #[.int .i64 (n : Nat), .slice As a.start.length cs, .slice Af a.final.length cf, .slice Ae a.edges.length ce] 25 (0, 0)) := by rw [← hW1]; exact heap_alloc_new w _
  have hz1 := d1.size
  have hlt1 : w.heap.size < W1.heap.size := by rw [← hW1]; simp
  have kc := fun vl l W (d : Below W1.heap.size W1 W) (hl : Ints W W.heap.size vl l) (hin : Inb a l) (hll : l.length ≤ 1000000) => rclosure_ok a (.slice As a.start.length cs) (.slice Af a.final.length cf) (.slice Ae a.edges.length ce) vl l W ((hfa.below d1 hz1).below d d.size) ha hl hin hll
  have km := fun vl W (hl : Ints W W.heap.size vl (a.clo l)) => marked_ok a (.slice As a.start.length cs) (.slice Af a.final.length cf) (.slice Ae a.edges.length ce) vl (a.clo l) n W hn hnn hl hcin hcl ⟨_, _, _, rfl⟩ ⟨_, _, _, rfl⟩ ⟨_, _, _, rfl⟩
  obtain ⟨q1, q2, q3, q4⟩ : W1.cell? ⟨w.heap.size, 0, none⟩ = some (.int .i64 (n : Nat)) ∧ W1.cell? ⟨w.heap.size, 1, none⟩ = some (.slice As a.start.length cs) ∧ W1.cell? ⟨w.heap.size, 2, none⟩ = some (.slice Af a.final.length cf) ∧ W1.cell? ⟨w.heap.size, 3, none⟩ = some (.slice Ae a.edges.length ce) := ⟨cell_at b1 0, cell_at b1 1, cell_at b1 2, cell_at b1 3⟩
  have hl1 : Ints W1 W1.heap.size (.slice A0 l.length c0) l := hl.below d1 hz1
  unfold vA at kc km ⊢
  rw [hn] at kc km ⊢
  have HW := Lib.hid (And.intro kc km)
  have HF := Lib.hid (And.intro heb (And.intro hre (And.intro hn hin)))
  clear heb hre hn hfa hl hs1 hs2' hr hin b1 kc km
  go_enter Tryz.func22, Tryz.ntmps22
  go_wp2_with fail
  refine wp_region_phases 5 (by kernel_rfl) (fun w' => Below W1.heap.size W1 w') (fun a b => Below a.heap.size a b)
    (fun i v w' => match i with
      | 0 => v = .agg #[.int .i64 (n : Nat), .slice As a.start.length cs, .slice Af a.final.length cf, .slice Ae a.edges.length ce]
      | 1 => v = .agg #[.int .i64 (n : Nat), .slice As a.start.length cs, .slice Af a.final.length cf, .slice Ae a.edges.length ce]
      | 2 => v = .slice A0 l.length c0
      | 3 => ∃ A c, v = .slice A (a.clo l).length c ∧ Ints w' w'.heap.size (.slice A (a.clo l).length c) (a.clo l)
      | 4 => ∃ b, v = .slice (some ⟨b, 0, none⟩) n n ∧ W1.heap.size ≤ b ∧ BRow w' b (marks n (a.clo l))
      | _ => True)
    (fun f => { tmps := #[.agg #[.int .i64 (n : Nat), .slice As a.start.length cs, .slice Af a.final.length cf, .slice Ae a.edges.length ce], .int .i64 by_, .slice A0 l.length c0, .pointer (some ⟨w.heap.size, 0, none⟩), undef, undef, .slice none 0 0, undef, undef, undef, undef, f 0, f 1, f 2, f 3, f 4, undef, undef, undef, undef, undef, undef, undef, undef, undef, undef, undef, undef, undef, undef, undef, undef, undef, undef, undef, undef, undef, undef, undef, undef, undef, undef, undef, undef, undef, undef, undef, undef, undef, undef, undef], defers := [] })
    (by decide) (by kernel_rfl) (by kernel_rfl) (by kernel_rfl) (fun f => by kernel_rfl) (fun f => rfl) ?hk (Below.refl _ _).drew ?hstep ?htail
  case hk =>
    intro i v x y hxy h
    match i with
    | 0 | 1 | 2 => exact h
    | 3 => obtain ⟨A, c, h1, h2⟩ := h; exact ⟨A, c, h1, h2.below hxy hxy.size⟩
    | 4 => obtain ⟨b, h1, h2, h3⟩ := h; exact ⟨b, h1, h2, h3.below hxy⟩
    | n + 5 => trivial
  case hstep =>
    intro f w' hR
    have p1 := (hR.cell (p := ⟨w.heap.size, 0, none⟩) hlt1).trans q1
    have p2 := (hR.cell (p := ⟨w.heap.size, 1, none⟩) hlt1).trans q2
    have p3 := (hR.cell (p := ⟨w.heap.size, 2, none⟩) hlt1).trans q3
    have p4 := (hR.cell (p := ⟨w.heap.size, 3, none⟩) hlt1).trans q4
    refine ⟨?_, ?_, ?_, ?_, ?_, trivial⟩
    all_goals
      intro hA a1 K hK
      simp only [AfterAll, Region.binds, forall_const, and_true] at hA
    · go_simp
      exact hK _ _ hR (Below.refl _ _) rfl
    · go_simp
      exact hK _ _ hR (Below.refl _ _) rfl
    · go_simp
      exact hK _ _ hR (Below.refl _ _) rfl
    · go_simp
      refine (HW.out.1 _ l w' hR (hl1.below hR hR.size) HF.out.2.2.2 hll).mono ?_
      rintro e w2 ⟨v2, rfl, ho2, d2⟩
      have hs := ho2.sl encI_len
      obtain ⟨A2, c2, rfl, _⟩ := ho2.form
      exact hK _ _ (below_next hR d2) d2 ⟨A2, c2, rfl, hs⟩
    · obtain ⟨h0, ⟨A2, c2, h3, hs⟩, _⟩ := hA
      go_simp
      refine (HW.out.2 _ w' hs).mono ?_
      rintro e w2 ⟨⟨b, rfl, hb, hRb⟩, d2⟩
      exact hK _ _ (below_next hR d2) d2 ⟨b, rfl, Nat.le_trans hR.size hb, hRb⟩
  case htail =>
    intro f w' hR hP
    obtain ⟨b, h4, hb0, hBR⟩ := hP 4 (by decide)
    have hx0 : f 0 = _ := hP 0 (by decide)
    have hx1 : f 1 = _ := hP 1 (by decide)
    have hx2 : f 2 = _ := hP 2 (by decide)
    obtain ⟨A3, c3, h3, _⟩ := hP 3 (by decide)
    rw [hx0, hx1, hx2, h3, h4]
    have p1 := (hR.cell (p := ⟨w.heap.size, 0, none⟩) hlt1).trans q1
    have p4 := (hR.cell (p := ⟨w.heap.size, 3, none⟩) hlt1).trans q4
    obtain ⟨W5, hW5⟩ : ∃ W5, w'.alloc (.cells (madeCells #[Value.bool false] n) 4) = W5 := ⟨_, rfl⟩
    have d5 : Below w'.heap.size w' W5 := hW5 ▸ alloc1 w' _
    have r5 : BRow W5 w'.heap.size (marks n []) := by rw [← hW5]; exact BRow.new w' n
    have hBR5 := hBR.below d5
    have p5 := (d5.cell (p := ⟨w.heap.size, 3, none⟩) (Nat.lt_of_lt_of_le hlt1 hR.size)).trans p4
    have hR5 := below_next hR d5
    have hne : b ≠ w'.heap.size := by have := hBR.lt; omega
    have hbw := hR.size
    clear hP hx0 hx1 hx2 h3 h4 hR hBR
    go_wp2_with (at_make; refine wpList_make_z _ rfl _ _ 87 rfl _ i2 _ 1 Tryz.underlying87 hi2 hz2 hs2 n rfl rfl hB1 hN ?_)
    have hbt : W1.heap.size ≤ w'.heap.size := hbw
    generalize w'.heap.size = bt at *
    clear hW5 d5 p1 p4
    go_loopw [22] (fun i wr => ∃ j : Nat, j ≤ a.edges.length ∧ i = .int .i64 j ∧ BRow wr bt (marks n (a.dests (a.clo l) by_ j)) ∧ BRow wr b (marks n (a.clo l)) ∧ Below W1.heap.size W1 wr) (fun i _ => a.edges.length - (intOf i).toNat)
    case atStart => exact ⟨0, Nat.zero_le _, rfl, r5, hBR5, hR5⟩
    case round =>
      obtain ⟨j, hj, rfl, hR2, hR3, hb2⟩ := hrel
      clear r5 hBR5 hR5 p5
      by_cases hlt2 : j < a.edges.length
      · obtain ⟨heb, hre, _, _⟩ := HF.out
        obtain ⟨eb, eo, rfl, heb2, hec⟩ := hre (by omega)
        obtain ⟨z0, z1, z2, z3, z4, z5, z6⟩ := cell7 hec hlt2
        have hE := heb _ (List.getElem_mem hlt2)
        have dd := below_next d1 hb2
        have y0 := (dd.cell (p := ⟨eb, eo + j * 7, none⟩) heb2).trans z0
        have y1 := (dd.cell (p := ⟨eb, eo + j * 7 + 1, none⟩) heb2).trans z1
        have y2 := (dd.cell (p := ⟨eb, eo + j * 7 + 2, none⟩) heb2).trans z2
        have y3 := (dd.cell (p := ⟨eb, eo + j * 7 + 3, none⟩) heb2).trans z3
        have y4 := (dd.cell (p := ⟨eb, eo + j * 7 + 4, none⟩) heb2).trans z4
        have y5 := (dd.cell (p := ⟨eb, eo + j * 7 + 5, none⟩) heb2).trans z5
        have y6 := (dd.cell (p := ⟨eb, eo + j * 7 + 6, none⟩) heb2).trans z6
        have hyes := dests_yes (from_ := a.clo l) (b := by_) hlt2
        have hno := dests_no (from_ := a.clo l) (b := by_) hlt2
        clear z0 z1 z2 z3 z4 z5 z6 hec hre heb
        generalize a.edges[j] = ed at *
        obtain ⟨ex, ey, ef, eset⟩ := ed
        simp only at hE y0 y1 y2 y3 y4 y5 y6 hyes
        obtain ⟨x, rfl⟩ : ∃ x : Nat, ex = x := ⟨ex.toNat, by omega⟩
        obtain ⟨y, rfl⟩ : ∃ y : Nat, ey = y := ⟨ey.toNat, by omega⟩
        obtain ⟨⟨_, hxn⟩, _, hyn⟩ := hE
        have hxn' : x < n := by omega
        have hyn' : y < n := by omega
        rw [leads_mark hxn'] at hyes hno
        have cx := hR3.cell x (by rw [marks_len]; exact hxn')
        have cy := hR2.cell y (by rw [marks_len]; exact hyn')
        have fy := hR2.free y
        have hbl := hR2.lt
        have hbl3 := hR3.lt
        have hnx : (marks n (a.dests (a.clo l) by_ j)).set y true = marks n (a.dests (a.clo l) by_ j ++ [(y : Int)]) := marks_add _ hyn'
        have hRs := hR2.set y true
        have hR3s : BRow (wr.setCell ⟨bt, y, none⟩ (.bool true)) b (marks n (a.clo l)) := (Below.heap_setCell wr ⟨bt, y, none⟩ (.bool true) b hne).trans hR3
        have hbs := hb2.setCell (p := ⟨bt, y, none⟩) hbt (.bool true)
        rw [hnx] at hRs
        have HRS := Lib.hid (And.intro hRs (And.intro hR3s hbs))
        have hhas := fun W => rhasb_ok eset by_ hby W
        unfold vS at hhas
        have hba := hb2.trans ((alloc1 wr (.cells #[.int .i64 (x : Nat), .int .i64 (y : Nat), .bool ef, .int .u64 eset.w0.toNat, .int .u64 eset.w1.toNat, .int .u64 eset.w2.toNat, .int .u64 eset.w3.toNat] 73)).mono hb2.size)
        have hRa := hR2.below (alloc1 wr (.cells #[.int .i64 (x : Nat), .int .i64 (y : Nat), .bool ef, .int .u64 eset.w0.toNat, .int .u64 eset.w1.toNat, .int .u64 eset.w2.toNat, .int .u64 eset.w3.toNat] 73))
        have hRa3 := hR3.below (alloc1 wr (.cells #[.int .i64 (x : Nat), .int .i64 (y : Nat), .bool ef, .int .u64 eset.w0.toNat, .int .u64 eset.w1.toNat, .int .u64 eset.w2.toNat, .int .u64 eset.w3.toNat] 73))
        have HA := Lib.hid (And.intro hRa (And.intro hRa3 hba))
        have HY := Lib.hid (And.intro hyes hno)
        have hxi : (x : Int) < n := by omega
        have hyi : (y : Int) < n := by omega
        clear hR2 hR3 hRs hR3s hbs hnx hyes hno hRa hRa3 hba
        cases ef with
        | true =>
          go_wp2_with fail
          go_roundw
          case rel => exact ⟨j + 1, by omega, by go_num, by rw [HY.out.2 (by simp)]; exact HA.out.1, HA.out.2.1, HA.out.2.2⟩
          case measure => simp [intOf]; omega
        | false =>
          cases hmx : (marks n (a.clo l)).getD x false with
          | false =>
            rw [hmx] at cx
            have HM := Lib.hid hmx
            clear hmx
            go_wp2_with fail
            go_roundw
            case rel => exact ⟨j + 1, by omega, by go_num, by rw [HY.out.2 (by rw [HM.out]; simp)]; exact HA.out.1, HA.out.2.1, HA.out.2.2⟩
            case measure => simp [intOf]; omega
          | true =>
            rw [hmx] at cx
            have HM := Lib.hid hmx
            clear hmx
            clear cy fy HRS
            go_wp2_with fail
            cases hhb : eset.has by_ with
            | false =>
              rw [hhb] at hhas
              have HB := Lib.hid hhb
              clear hhb
              refine (hhas _).mono ?_
              rintro e w9 ⟨rfl, d9⟩
              clear hhas
              go_wp2_with fail
              go_roundw
              case rel => exact ⟨j + 1, by omega, by go_num, by rw [HY.out.2 (by rw [HB.out]; simp)]; exact HA.out.1.below d9, HA.out.2.1.below d9, below_next HA.out.2.2 d9⟩
              case measure => simp [intOf]; omega
            | true =>
              rw [hhb] at hhas
              have HB := Lib.hid hhb
              clear hhb
              refine (hhas _).mono ?_
              rintro e w9 ⟨rfl, d9⟩
              clear hhas
              have ce9 := (d9.cell (p := ⟨wr.heap.size, 1, none⟩) (by simp)).trans (cell_new wr #[.int .i64 (x : Nat), .int .i64 (y : Nat), .bool false, .int .u64 eset.w0.toNat, .int .u64 eset.w1.toNat, .int .u64 eset.w2.toNat, .int .u64 eset.w3.toNat] 73 1)
              simp only [List.getElem?_toArray, List.getElem?_cons_zero, List.getElem?_cons_succ] at ce9
              have hR9 := HA.out.1.below d9
              have hR93 := HA.out.2.1.below d9
              have hb9 := below_next HA.out.2.2 d9
              have cy := hR9.cell y (by rw [marks_len]; exact hyn')
              have fy := hR9.free y
              have hRs := hR9.set y true
              rw [marks_add _ hyn'] at hRs
              have hR3s : BRow (w9.setCell ⟨bt, y, none⟩ (.bool true)) b (marks n (a.clo l)) := (Below.heap_setCell w9 ⟨bt, y, none⟩ (.bool true) b hne).trans hR93
              have HRS := Lib.hid (And.intro hRs (And.intro hR3s (hb9.setCell (p := ⟨bt, y, none⟩) hbt (.bool true))))
              clear hR9 hR93 hb9 hRs hR3s d9
              generalize (marks n (a.dests (a.clo l) by_ j)).getD y false = old at *
              go_wp2_with fail
              go_roundw
              case rel => exact ⟨j + 1, by omega, by go_num, by rw [HY.out.1 (by rw [HM.out, HB.out]; rfl)]; exact HRS.out.1, HRS.out.2.1, HRS.out.2.2⟩
              case measure => simp [intOf]; omega
      · have hje : j = a.edges.length := by omega
        subst hje
        rw [dests_all] at hR2
        obtain ⟨heb, _, hn, _⟩ := HF.out
        have hdin : ∀ s : Int, s ∈ (a.edges.filter (leads (a.clo l) by_)).map (fun e => e.dst) → 0 ≤ s ∧ s < n := by
          intro s hs
          obtain ⟨e, he, rfl⟩ := List.mem_map.1 hs
          exact (heb e (List.mem_filter.1 he).1).2
        have hrs := rs_marks hdin
        have hrr := fun W (d : Below wr.heap.size wr W) => rrises_ok bt _ n W (marks_len n _) hnn (hR2.below d)
        have hlen : (rs (marks n ((a.edges.filter (leads (a.clo l) by_)).map (fun e => e.dst)))).length ≤ 1000000 := by
          have h1 := rsk_len (marks n ((a.edges.filter (leads (a.clo l) by_)).map (fun e => e.dst))) n
          have h2 : rs (marks n ((a.edges.filter (leads (a.clo l) by_)).map (fun e => e.dst))) = rsk (marks n ((a.edges.filter (leads (a.clo l) by_)).map (fun e => e.dst))) n := by unfold rs rsk; rw [marks_len]
          rw [h2]; omega
        have hinb : Inb a (rs (marks n ((a.edges.filter (leads (a.clo l) by_)).map (fun e => e.dst)))) := fun s hs => by
          have := hdin s ((hrs s).1 hs)
          omega
        have hst : a.clo (rs (marks n ((a.edges.filter (leads (a.clo l) by_)).map (fun e => e.dst)))) = a.step l by_ := by
          unfold A.step A.clo
          exact cl_same hrs
        generalize rs (marks n ((a.edges.filter (leads (a.clo l) by_)).map (fun e => e.dst))) = rl at *
        have r1 := (hb2.cell (p := ⟨w.heap.size, 0, none⟩) hlt1).trans q1
        have HS := Lib.hid hst
        have HRR := Lib.hid hrr
        clear hst hrr hrs hdin heb hn hR2 hR3
        go_wp2_with fail
        refine wp_region_auto 4 (by kernel_rfl) (fun w' => Below wr.heap.size wr w') (fun a b => Below a.heap.size a b)
          (fun i v w' => match i with
            | 0 => v = .agg #[.int .i64 (n : Nat), .slice As a.start.length cs, .slice Af a.final.length cf, .slice Ae a.edges.length ce]
            | 1 => v = .slice (some ⟨bt, 0, none⟩) n n
            | 2 => ∃ A c, v = .slice A rl.length c ∧ Ints w' w'.heap.size (.slice A rl.length c) rl
            | 3 => ∃ A c, v = .slice A (a.step l by_).length c ∧ Own encI 1 3 w' wr.heap.size (.slice A (a.step l by_).length c) (a.step l by_)
            | _ => True)
          ?fin2 ?hfin2 (by decide) (by kernel_rfl) (by kernel_rfl) (by kernel_rfl) ?hk2 (Below.refl _ _).drew ?hstep2 ?htail2
        case hfin2 =>
          intro f
          simp only [List.take_succ_cons, List.take_zero, putF, List.setIfInBounds_toArray, List.set_cons_zero, List.set_cons_succ]
          exact rfl
        case hk2 =>
          intro i v x y hxy h
          match i with
          | 0 | 1 => exact h
          | 2 => obtain ⟨A, c, h1, h2⟩ := h; exact ⟨A, c, h1, h2.below hxy hxy.size⟩
          | 3 => obtain ⟨A, c, h1, h2⟩ := h; exact ⟨A, c, h1, h2.below hxy⟩
          | n + 4 => trivial
        case hstep2 =>
          intro f w'' hR'
          have hdw := below_next hb2 hR'
          have p1 := (hdw.cell (p := ⟨w.heap.size, 0, none⟩) hlt1).trans q1
          have p2 := (hdw.cell (p := ⟨w.heap.size, 1, none⟩) hlt1).trans q2
          have p3 := (hdw.cell (p := ⟨w.heap.size, 2, none⟩) hlt1).trans q3
          have p4 := (hdw.cell (p := ⟨w.heap.size, 3, none⟩) hlt1).trans q4
          refine ⟨?_, ?_, ?_, ?_, trivial⟩
          all_goals
            intro hA a1 K hK
            simp only [AfterAll, Region.binds, forall_const, and_true] at hA
          · go_simp
            exact hK _ _ hR' (Below.refl _ _) rfl
          · go_simp
            exact hK _ _ hR' (Below.refl _ _) rfl
          · go_simp
            refine (HRR.out w'' hR').mono ?_
            rintro e w2 ⟨v2, rfl, ho2, d2⟩
            have hs := ho2.sl encI_len
            obtain ⟨A2, c2, rfl, _⟩ := ho2.form
            exact hK _ _ (below_next hR' d2) d2 ⟨A2, c2, rfl, hs⟩
          · obtain ⟨h0, ⟨A2, c2, h2, hs⟩, _⟩ := hA
            go_simp
            refine (HW.out.1 _ rl w'' hdw hs hinb hlen).mono ?_
            rintro e w3 ⟨v3, rfl, ho3, d3⟩
            rw [HS.out] at ho3
            obtain ⟨A4, c4, rfl, _⟩ := ho3.form
            exact hK _ _ (below_next hR' d3) d3 ⟨A4, c4, rfl, ho3.lower hR'.size⟩
        case htail2 =>
          intro f w'' hR' hP
          obtain ⟨A3, c3, h3, o3⟩ := hP 3 (by decide)
          rw [h3]
          clear hP
          go_wp2_with fail
          go_ret
          exact ⟨_, rfl, o3.lower (Nat.le_trans hz1 hb2.size), below_next (below_next d1 hb2) hR'⟩
end Go.Proofs.YtakldmbbmefnbaaGreat
/- the reference's words: Right. -/
namespace Go.Proofs.YtakldmbbmefnbaaGreat
open Go.RowKit Go.Sort Go.Proofs
set_option maxRecDepth 100000
set_option maxHeartbeats 16000000

theorem mayE_set (st : Int) (e : E) : mayE st e = (inB st e.src && inB st e.dst && (e.free == decide (e.set = ⟨0#64, 0#64, 0#64, 0#64⟩))) := by
  have h : decide (e.set.count = 0) = decide (e.set = ⟨0#64, 0#64, 0#64, 0#64⟩) := by
    rw [Bool.eq_iff_iff, decide_eq_true_iff, decide_eq_true_iff]
    exact count_zero e.set
  unfold mayE
  rw [h]

theorem rright_ok (a : A) (vs vf ve : Value) (w : World) (hfa : FaAt w w.heap.size a vs vf ve) (ha : Short a) :
    Calls Tryz.prog 12 #[vA a vs vf ve] w (fun r w' => r = .returned (.bool a.ok) ∧ Below w.heap.size w w') := by
  obtain ⟨As, cs, rfl, hs1⟩ := id hfa.s
  obtain ⟨Af, cf, rfl, hs2⟩ := id hfa.f
  obtain ⟨Ae, ce, rfl, hs3⟩ := id hfa.e
  have hok : a.ok = (decide (0 ≤ a.states) && a.start.all (inB a.states) && a.final.all (inB a.states) && a.edges.all (mayE a.states)) := rfl
  obtain ⟨W1, hW1⟩ : ∃ W1, w.alloc (.cells #[.int .i64 a.states, .slice As a.start.length cs, .slice Af a.final.length cf, .slice Ae a.edges.length ce] 25) = W1 := ⟨_, rfl⟩
  have d1 : Below w.heap.size w W1 := hW1 ▸ alloc1 w _
  have b1 : W1.heap[w.heap.size]? = some (.cells #[.int .i64 a.states, .slice As a.start.length cs, .slice Af a.final.length cf, .slice Ae a.edges.length ce] 25 (0, 0)) := by rw [← hW1]; exact heap_alloc_new w _
  have hlt1 : w.heap.size < W1.heap.size := by rw [← hW1]; simp
  obtain ⟨p0, p1, p2, p3⟩ : W1.cell? ⟨w.heap.size, 0, none⟩ = some (.int .i64 a.states) ∧ W1.cell? ⟨w.heap.size, 1, none⟩ = some (.slice As a.start.length cs) ∧ W1.cell? ⟨w.heap.size, 2, none⟩ = some (.slice Af a.final.length cf) ∧ W1.cell? ⟨w.heap.size, 3, none⟩ = some (.slice Ae a.edges.length ce) := ⟨cell_at b1 0, cell_at b1 1, cell_at b1 2, cell_at b1 3⟩
  obtain ⟨W2, hW2⟩ : ∃ W2, W1.alloc (.cells #[.slice As a.start.length cs, .slice Af a.final.length cf] 22) = W2 := ⟨_, rfl⟩
  have d2 : Below W1.heap.size W1 W2 := hW2 ▸ alloc1 W1 _
  have b2 : W2.heap[W1.heap.size]? = some (.cells #[.slice As a.start.length cs, .slice Af a.final.length cf] 22 (0, 0)) := by rw [← hW2]; exact heap_alloc_new W1 _
  have dw := below_next d1 d2
  have hls := ha.s
  have hlf := ha.f
  have hle := ha.e
  have HS := Lib.hid (And.intro hs1 (And.intro hs2 hs3))
  unfold vA
  generalize hst : a.states = st at *
  have HOK := Lib.hid hok
  clear hok hst hs1 hs2 hs3 hfa b1
  by_cases hneg : st < 0
  · go_enter Tryz.func12, Tryz.ntmps12
    go_wp2_with fail
    go_ret
    refine ⟨?_, d1⟩
    have : decide (0 ≤ st) = false := by simp; omega
    rw [HOK.out, this]; rfl
  · have hst0 : 0 ≤ st := by omega
    go_enter Tryz.func12, Tryz.ntmps12
    go_wp2_with fail
    replace p0 := (d2.cell (p := ⟨w.heap.size, 0, none⟩) hlt1).trans p0
    replace p3 := (d2.cell (p := ⟨w.heap.size, 3, none⟩) hlt1).trans p3
    have hlt2 : w.heap.size < W2.heap.size := Nat.lt_of_lt_of_le hlt1 d2.size
    have hltb : W1.heap.size < W2.heap.size := (Array.getElem?_eq_some_iff.1 b2).1
    have u0 : W2.cell? ⟨W1.heap.size, 0, none⟩ = some (.slice As a.start.length cs) := cell_at b2 0
    have u1 : W2.cell? ⟨W1.heap.size, 1, none⟩ = some (.slice Af a.final.length cf) := cell_at b2 1
    clear p1 p2 b2 d1 d2 hW1 hW2
    generalize W2 = w2 at *
    go_loopw [18] (fun i wr => ∃ k : Nat, k ≤ 2 ∧ i = .int .i64 k ∧ Below w2.heap.size w2 wr ∧ (0 < k → a.start.all (inB st) = true) ∧ (1 < k → a.final.all (inB st) = true)) (fun i _ => 2 - (intOf i).toNat)
    case atStart => exact ⟨0, Nat.zero_le _, rfl, Below.refl _ _, fun h => absurd h (by decide), fun h => absurd h (by decide)⟩
    case round =>
      obtain ⟨k, hk, rfl, hb, ha1, ha2⟩ := hrel
      obtain ⟨wo, hwo⟩ : ∃ wo, wo = wr := ⟨_, rfl⟩
      subst hwo
      have v0 := (hb.cell (p := ⟨W1.heap.size, 0, none⟩) hltb).trans u0
      have v1 := (hb.cell (p := ⟨W1.heap.size, 1, none⟩) hltb).trans u1
      by_cases hk2 : k < 2
      · obtain rfl | rfl : k = 0 ∨ k = 1 := by omega
        all_goals clear ha2
        · -- the row start
          rw [show ((0 : Nat) : Int) = 0 from rfl]
          have hRow := HS.out.1
          go_wp2_with fail
          go_loopw [24] (fun i wr => ∃ j : Nat, j ≤ a.start.length ∧ i = .int .i64 j ∧ Below w2.heap.size w2 wr ∧ (a.start.take j).all (inB st) = true) (fun i _ => a.start.length - (intOf i).toNat)
          case atStart => exact ⟨0, Nat.zero_le _, rfl, hb, rfl⟩
          case round =>
            obtain ⟨j, hj, rfl, hb2, hall⟩ := hrel
            clear hb
            by_cases hltj : j < a.start.length
            · obtain ⟨sb, so, rfl, hsb, hsc⟩ := hRow (by omega)
              have hcell := ((below_next dw hb2).cell (p := ⟨sb, so + j, none⟩) hsb).trans (cell1 encI_eq hsc hltj)
              have r0 := (hb2.cell (p := ⟨w.heap.size, 0, none⟩) hlt2).trans p0
              have hi2 : (j : Int) < a.start.length := by omega
              have hmem := List.getElem_mem hltj
              have htk : (a.start.take (j + 1)).all (inB st) = ((a.start.take j).all (inB st) && inB st a.start[j]) := by
                rw [List.take_succ_eq_append_getElem hltj, List.all_append]; simp
              by_cases hs : 0 ≤ a.start[j] ∧ a.start[j] < st
              · obtain ⟨hs0, hs1⟩ := hs
                have hnx : (a.start.take (j + 1)).all (inB st) = true := by rw [htk, hall]; simp [inB]; omega
                have HN := Lib.hid hnx
                clear hnx htk hall hmem hsc hRow
                generalize a.start[j] = s at *
                go_wp2_with fail
                go_roundw
                case rel => exact ⟨j + 1, by omega, by go_num, hb2, HN.out⟩
                case measure => simp [intOf]; omega
              · have hno : a.start.all (inB st) = false := by
                  rw [← Bool.not_eq_true, List.all_eq_true]
                  intro h
                  have := h _ hmem
                  simp [inB] at this
                  exact hs this
                have HN := Lib.hid hno
                clear hno htk hall hmem hsc hRow
                generalize a.start[j] = s at *
                by_cases hs0 : s < 0
                · go_wp2_with fail
                  go_ret
                  exact ⟨by rw [HOK.out, HN.out]; simp, below_next dw hb2⟩
                · have hs1 : st ≤ s := by omega
                  go_wp2_with fail
                  go_ret
                  exact ⟨by rw [HOK.out, HN.out]; simp, below_next dw hb2⟩
            · have hje : j = a.start.length := by omega
              subst hje
              rw [List.take_length] at hall
              have HA := Lib.hid hall
              clear hall hRow
              go_wp2_with fail
              go_roundw
              case rel => exact ⟨1, by omega, by go_num, hb2, fun _ => HA.out, fun h => absurd h (by decide)⟩
              case measure => simp [intOf]

        · -- the row final
          rw [show ((1 : Nat) : Int) = 1 from rfl]
          have hRow := HS.out.2.1
          have HA1 := Lib.hid (ha1 (by decide))
          clear ha1
          go_wp2_with fail
          go_loopw [24] (fun i wr => ∃ j : Nat, j ≤ a.final.length ∧ i = .int .i64 j ∧ Below w2.heap.size w2 wr ∧ (a.final.take j).all (inB st) = true) (fun i _ => a.final.length - (intOf i).toNat)
          case atStart => exact ⟨0, Nat.zero_le _, rfl, hb, rfl⟩
          case round =>
            obtain ⟨j, hj, rfl, hb2, hall⟩ := hrel
            clear hb
            by_cases hltj : j < a.final.length
            · obtain ⟨sb, so, rfl, hsb, hsc⟩ := hRow (by omega)
              have hcell := ((below_next dw hb2).cell (p := ⟨sb, so + j, none⟩) hsb).trans (cell1 encI_eq hsc hltj)
              have r0 := (hb2.cell (p := ⟨w.heap.size, 0, none⟩) hlt2).trans p0
              have hi2 : (j : Int) < a.final.length := by omega
              have hmem := List.getElem_mem hltj
              have htk : (a.final.take (j + 1)).all (inB st) = ((a.final.take j).all (inB st) && inB st a.final[j]) := by
                rw [List.take_succ_eq_append_getElem hltj, List.all_append]; simp
              by_cases hs : 0 ≤ a.final[j] ∧ a.final[j] < st
              · obtain ⟨hs0, hs1⟩ := hs
                have hnx : (a.final.take (j + 1)).all (inB st) = true := by rw [htk, hall]; simp [inB]; omega
                have HN := Lib.hid hnx
                clear hnx htk hall hmem hsc hRow
                generalize a.final[j] = s at *
                go_wp2_with fail
                go_roundw
                case rel => exact ⟨j + 1, by omega, by go_num, hb2, HN.out⟩
                case measure => simp [intOf]; omega
              · have hno : a.final.all (inB st) = false := by
                  rw [← Bool.not_eq_true, List.all_eq_true]
                  intro h
                  have := h _ hmem
                  simp [inB] at this
                  exact hs this
                have HN := Lib.hid hno
                clear hno htk hall hmem hsc hRow
                generalize a.final[j] = s at *
                by_cases hs0 : s < 0
                · go_wp2_with fail
                  go_ret
                  exact ⟨by rw [HOK.out, HN.out]; simp, below_next dw hb2⟩
                · have hs1 : st ≤ s := by omega
                  go_wp2_with fail
                  go_ret
                  exact ⟨by rw [HOK.out, HN.out]; simp, below_next dw hb2⟩
            · have hje : j = a.final.length := by omega
              subst hje
              rw [List.take_length] at hall
              have HA := Lib.hid hall
              clear hall hRow
              go_wp2_with fail
              go_roundw
              case rel => exact ⟨2, by omega, by go_num, hb2, fun _ => HA1.out, fun _ => HA.out⟩
              case measure => simp [intOf]
      · have : k = 2 := by omega
        subst this
        have HA1 := Lib.hid (And.intro (ha1 (by decide)) (ha2 (by decide)))
        clear ha1 ha2 u0 u1 v0 v1
        rw [show ((2 : Nat) : Int) = 2 from rfl]
        have r3 := (hb.cell (p := ⟨w.heap.size, 3, none⟩) hlt2).trans p3
        have hRow := HS.out.2.2
        go_wp2_with fail
        go_loopw [41] (fun i wr => ∃ j : Nat, j ≤ a.edges.length ∧ i = .int .i64 j ∧ Below w2.heap.size w2 wr ∧ (a.edges.take j).all (mayE st) = true) (fun i _ => a.edges.length - (intOf i).toNat)
        case atStart => exact ⟨0, Nat.zero_le _, rfl, hb, rfl⟩
        case round =>
          obtain ⟨j, hj, rfl, hb2, hall⟩ := hrel
          clear hb r3
          by_cases hltj : j < a.edges.length
          · obtain ⟨eb, eo, rfl, heb2, hec⟩ := hRow (by omega)
            obtain ⟨z0, z1, z2, z3, z4, z5, z6⟩ := cell7 hec hltj
            have dd := below_next dw hb2
            have y0 := (dd.cell (p := ⟨eb, eo + j * 7, none⟩) heb2).trans z0
            have y1 := (dd.cell (p := ⟨eb, eo + j * 7 + 1, none⟩) heb2).trans z1
            have y2 := (dd.cell (p := ⟨eb, eo + j * 7 + 2, none⟩) heb2).trans z2
            have y3 := (dd.cell (p := ⟨eb, eo + j * 7 + 3, none⟩) heb2).trans z3
            have y4 := (dd.cell (p := ⟨eb, eo + j * 7 + 4, none⟩) heb2).trans z4
            have y5 := (dd.cell (p := ⟨eb, eo + j * 7 + 5, none⟩) heb2).trans z5
            have y6 := (dd.cell (p := ⟨eb, eo + j * 7 + 6, none⟩) heb2).trans z6
            have r0 := (hb2.cell (p := ⟨w.heap.size, 0, none⟩) hlt2).trans p0
            have hbw := Nat.lt_of_lt_of_le hlt2 hb2.size
            have hmem := List.getElem_mem hltj
            have htk : (a.edges.take (j + 1)).all (mayE st) = ((a.edges.take j).all (mayE st) && mayE st a.edges[j]) := by
              rw [List.take_succ_eq_append_getElem hltj, List.all_append]; simp
            have hno : mayE st a.edges[j] = false → a.ok = false := by
              intro h
              have : a.edges.all (mayE st) = false := by
                rw [← Bool.not_eq_true, List.all_eq_true]
                intro h2
                rw [h2 _ hmem] at h
                cases h
              rw [HOK.out, this]; simp
            have hyes : mayE st a.edges[j] = true → (a.edges.take (j + 1)).all (mayE st) = true := by
              intro h; rw [htk, hall, h]; rfl
            clear z0 z1 z2 z3 z4 z5 z6 hec htk hall hmem hRow
            generalize a.edges[j] = ed at *
            obtain ⟨ex, ey, ef, eset⟩ := ed
            simp only at y0 y1 y2 y3 y4 y5 y6
            have heq := fun W => run_eql_set W eset ⟨0#64, 0#64, 0#64, 0#64⟩
            unfold vS at heq
            simp only [BitVec.toNat_ofNat, Nat.zero_mod, Int.natCast_zero] at heq
            have hmay := mayE_set st ⟨ex, ey, ef, eset⟩
            simp only at hmay
            have hba := hb2.trans ((alloc1 wr (.cells #[.int .i64 ex, .int .i64 ey, .bool ef, .int .u64 eset.w0.toNat, .int .u64 eset.w1.toNat, .int .u64 eset.w2.toNat, .int .u64 eset.w3.toNat] 73)).mono hb2.size)
            rw [hmay] at hno hyes
            clear hmay
            generalize decide (eset = ⟨0#64, 0#64, 0#64, 0#64⟩) = z at *
            have HN := Lib.hid (And.intro hno hyes)
            clear hno hyes
            by_cases hx0 : ex < 0
            · have t1 : decide (ex < 0) = true := by simpa using hx0
              go_wp2_with fail
              go_quiet (fail)
              go_wp2_with fail
              go_ret
              refine ⟨?_, below_next dw (below_drewN hba _)⟩
              rw [HN.out.1 (by simp [inB]; omega)]; rfl
            · have t1 : decide (ex < 0) = false := by simpa using hx0
              by_cases hx1 : st ≤ ex
              · have t2 : decide (st ≤ ex) = true := by simpa using hx1
                go_wp2_with fail
                go_quiet (fail)
                go_wp2_with fail
                go_ret
                refine ⟨?_, below_next dw (below_drewN hba _)⟩
                rw [HN.out.1 (by simp [inB]; omega)]; rfl
              · have t2 : decide (st ≤ ex) = false := by simpa using hx1
                by_cases hy0 : ey < 0
                · have t3 : decide (ey < 0) = true := by simpa using hy0
                  go_wp2_with fail
                  go_quiet (fail)
                  go_wp2_with fail
                  go_ret
                  refine ⟨?_, below_next dw (below_drewN hba _)⟩
                  rw [HN.out.1 (by simp [inB]; omega)]; rfl
                · have t3 : decide (ey < 0) = false := by simpa using hy0
                  by_cases hy1 : st ≤ ey
                  · have t4 : decide (st ≤ ey) = true := by simpa using hy1
                    go_wp2_with fail
                    go_quiet (fail)
                    go_wp2_with fail
                    go_ret
                    refine ⟨?_, below_next dw (below_drewN hba _)⟩
                    rw [HN.out.1 (by simp [inB]; omega)]; rfl
                  · have t4 : decide (st ≤ ey) = false := by simpa using hy1
                    have hin : inB st ex = true ∧ inB st ey = true := by simp [inB]; omega
                    have HI := Lib.hid hin
                    clear hin
                    cases ef with
                    | false =>
                      cases z with
                      | false =>
                        go_wp2_with fail
                        go_quiet (fail)
                        go_wp2_with fail
                        go_roundw
                        case rel => exact ⟨j + 1, by omega, by go_num, below_drewN hba _, HN.out.2 (by rw [HI.out.1, HI.out.2]; rfl)⟩
                        case measure => simp [intOf]; omega
                      | true =>
                        go_wp2_with fail
                        go_quiet (fail)
                        go_wp2_with fail
                        go_ret
                        refine ⟨?_, below_next dw (below_drewN hba _)⟩
                        rw [HN.out.1 (by rw [HI.out.1, HI.out.2]; rfl)]; rfl
                    | true =>
                      cases z with
                      | false =>
                        go_wp2_with fail
                        go_quiet (fail)
                        go_wp2_with fail
                        go_ret
                        refine ⟨?_, below_next dw (below_drewN hba _)⟩
                        rw [HN.out.1 (by rw [HI.out.1, HI.out.2]; rfl)]; rfl
                      | true =>
                        go_wp2_with fail
                        go_quiet (fail)
                        go_wp2_with fail
                        go_roundw
                        case rel => exact ⟨j + 1, by omega, by go_num, below_drewN hba _, HN.out.2 (by rw [HI.out.1, HI.out.2]; rfl)⟩
                        case measure => simp [intOf]; omega
          · have hje : j = a.edges.length := by omega
            subst hje
            rw [List.take_length] at hall
            have hres : a.ok = true := by
              rw [HOK.out, HA1.out.1, HA1.out.2, hall]
              simp; omega
            have HR := Lib.hid hres
            clear hres hall hRow
            go_wp2_with fail
            go_ret
            exact ⟨by rw [HR.out]; rfl, below_next dw hb2⟩
end Go.Proofs.YtakldmbbmefnbaaGreat
/- the statement WalkGoes: there; the reference's words, as it asks them. -/
namespace Go.Proofs.YtakldmbbmefnbaaGreat
open Go.RowKit Go.Sort Go.Proofs
set_option maxRecDepth 100000
set_option maxHeartbeats 1000000

theorem there_pred (b : Nat) (st : Int) (w : World) (hc : w.cell? ⟨b, 0, none⟩ = some (.int .i64 st)) :
    Pred1 Tryz.prog (fun x => .int .i64 x) (.func (.func 59) #[] #[pw b]) (fun _ => True) (fun s => !inB st s) w := by
  refine ⟨_, _, rfl, Tryz.call59, fun W x _ hb => ?_⟩
  have hc1 := (hb.cell (p := ⟨b, 0, none⟩) (World.block_lt_of_cell? _ _ hc)).trans hc
  show Calls Tryz.prog 59 #[.int .i64 x, pw b] W (fun r W' => r = .returned (.bool (!inB st x)) ∧ Below W.heap.size W W')
  clear hb hc
  have hin : inB st x = (decide (0 ≤ x) && decide (x < st)) := rfl
  have HI := Lib.hid hin
  clear hin
  by_cases h0 : x < 0
  · go_enter Tryz.func59, Tryz.ntmps59
    go_wp2
    go_ret
    refine ⟨?_, Below.refl _ _⟩
    have : inB st x = false := by rw [HI.out]; simp; omega
    rw [this]; rfl
  · by_cases h1 : st ≤ x
    · go_enter Tryz.func59, Tryz.ntmps59
      go_wp2
      go_ret
      refine ⟨?_, Below.refl _ _⟩
      have : inB st x = false := by rw [HI.out]; simp; omega
      simp [this]
    · go_enter Tryz.func59, Tryz.ntmps59
      go_wp2
      go_ret
      refine ⟨?_, Below.refl _ _⟩
      have : inB st x = true := by rw [HI.out]; simp; omega
      simp [this]
theorem there_law (a : A) (vs vf ve vl : Value) (l : List Int) (w : World) (hfa : FaAt w w.heap.size a vs vf ve) (hl : Ints w w.heap.size vl l) (hll : l.length ≤ 1000000) :
    Calls Tryz.prog 13 #[vA a vs vf ve, vl] w (fun r w' => r = .returned (.bool (l.all (inB a.states))) ∧ Below w.heap.size w w') := by
  obtain ⟨As, cs, rfl, _⟩ := id hfa.s
  obtain ⟨Af, cf, rfl, _⟩ := id hfa.f
  obtain ⟨Ae, ce, rfl, _⟩ := id hfa.e
  obtain ⟨A0, c0, rfl, _⟩ := id hl
  obtain ⟨W1, hW1⟩ : ∃ W1, w.alloc (.cells #[.int .i64 a.states, .slice As a.start.length cs, .slice Af a.final.length cf, .slice Ae a.edges.length ce] 25) = W1 := ⟨_, rfl⟩
  have d1 : Below w.heap.size w W1 := hW1 ▸ alloc1 w _
  have q0 : W1.cell? ⟨w.heap.size, 0, none⟩ = some (.int .i64 a.states) := by rw [← hW1, cell_new]; rfl
  have hp := there_pred w.heap.size a.states W1 q0
  have hc := containsFunc_int _ _ l (fun _ => True) _ W1 (hl.below d1 d1.size) hp (fun _ _ => trivial) hll
  rw [any_not] at hc
  unfold vA
  generalize l.all (inB a.states) = res at *
  clear hfa hl hp q0
  go_enter Tryz.func13, Tryz.ntmps13
  go_wp2_with (go_at_call 55; refine hc.mono ?_; rintro x w3 ⟨rfl, d3⟩)
  go_ret
  refine ⟨?_, below_next d1 d3⟩
  cases res <;> rfl

/-- A row of numbers that is handed back. -/
def GaveInts (w' : World) (r : Ending) (l : List Int) : Prop := ∃ A c, r = .returned (.slice A l.length c) ∧ Ints w' w'.heap.size (.slice A l.length c) l
theorem gave_of {w w' : World} {r : Ending} {l : List Int} (h : ∃ v', r = .returned v' ∧ Own encI 1 3 w' w.heap.size v' l ∧ Below w.heap.size w w') : GaveInts w' r l ∧ Below w.heap.size w w' := by
  obtain ⟨v, rfl, ho, hb⟩ := h
  have hs := ho.sl encI_len
  obtain ⟨A, c, rfl, _⟩ := ho.form
  exact ⟨⟨A, c, rfl, hs⟩, hb⟩
section
variable (a : A) (vs vf ve vl : Value) (l : List Int) (w : World) (hfa : FaAt w w.heap.size a vs vf ve) (ha : Fit a) (hl : Ints w w.heap.size vl l) (hin : Inb a l) (hll : l.length ≤ 1000000)
include hfa ha
include hl hin hll in
theorem rclosure_gave : Calls Tryz.prog 14 #[vA a vs vf ve, vl] w (fun r w' => GaveInts w' r (a.clo l) ∧ Below w.heap.size w w') := (rclosure_ok a vs vf ve vl l w hfa ha hl hin hll).mono (fun _ _ h => gave_of h)
include hl hin hll in
theorem rreach_gave : Calls Tryz.prog 15 #[vA a vs vf ve, vl, .bool false] w (fun r w' => GaveInts w' r (a.reach l) ∧ Below w.heap.size w w') := (rreach_ok false a vs vf ve vl l w hfa ha hl hin hll).mono (fun _ _ h => gave_of h)
theorem ralive_gave (hf : Ints w w.heap.size vf a.final) : Calls Tryz.prog 15 #[vA a vs vf ve, vf, .bool true] w (fun r w' => GaveInts w' r a.alive ∧ Below w.heap.size w w') := (rreach_ok true a vs vf ve vf a.final w hfa ha hf (inb_final ha) ha.f).mono (fun _ _ h => gave_of h)
theorem rlive_gave : Calls Tryz.prog 16 #[vA a vs vf ve] w (fun r w' => GaveInts w' r a.live ∧ Below w.heap.size w w') := (rlive_ok a vs vf ve w hfa ha).mono (fun _ _ h => gave_of h)
include hl hin hll in
theorem rstep_gave (b : Nat) (hb : b < 256) : Calls Tryz.prog 22 #[vA a vs vf ve, .int .i64 b, vl] w (fun r w' => GaveInts w' r (a.step l b) ∧ Below w.heap.size w w') := (rstep_ok a vs vf ve vl l b hb w hfa ha hl hin hll).mono (fun _ _ h => gave_of h)
end
theorem same_eq2 (v v' : Value) (l : List Int) (W : World) (h : Ints W W.heap.size v l) (h' : Ints W W.heap.size v' l) (hn : l.length ≤ 1000000) :
    Calls Tryz.prog 21 #[v, v'] W (fun r w' => r = .returned (.bool true) ∧ Below W.heap.size W w') := same_eq v v' l l W h h' hn rfl

/-- How far one has come: the arguments' block, the automaton's, the row of numbers. -/
structure GSt (w : World) (b : Nat) (x a : A) (us uf ue vs vf ve v8 : Value) (l : List Int) (W : World) : Prop where
  d : Below w.heap.size w W
  x : W.heap[w.heap.size]? = some (.cells #[.int .i64 x.states, us, uf, ue] 25 (0, 0))
  a : In5 W b a vs vf ve
  l : Ints W W.heap.size v8 l
theorem GSt.next {w : World} {b : Nat} {x a : A} {us uf ue vs vf ve v8 : Value} {l : List Int} {W W' : World} (h : GSt w b x a us uf ue vs vf ve v8 l W) (d : Below W.heap.size W W') : GSt w b x a us uf ue vs vf ve v8 l W' :=
  ⟨below_next h.d d, keepb h.x d, h.a.next d, h.l.below d d.size⟩
/-- Rows of numbers that lie as they lay. -/
structure IA (W : World) (ps : List (Value × List Int)) : Prop where
  h : ∀ p ∈ ps, Ints W W.heap.size p.1 p.2
theorem IA.next {W W' : World} {ps : List (Value × List Int)} (h : IA W ps) (d : Below W.heap.size W W') : IA W' ps := ⟨fun p hp => (h.h p hp).below d d.size⟩
theorem IA.nil (W : World) : IA W [] := ⟨by simp⟩
theorem IA.add {W : World} {ps : List (Value × List Int)} (h : IA W ps) {v : Value} {l : List Int} (hv : Ints W W.heap.size v l) : IA W ((v, l) :: ps) := ⟨fun p hp => by
  rcases List.mem_cons.1 hp with rfl | hp
  · exact hv
  · exact h.h p hp⟩
end Go.Proofs.YtakldmbbmefnbaaGreat
/- the statement WalkGoes: the walk, case all. -/
namespace Go.Proofs.YtakldmbbmefnbaaGreat
open Go.RowKit Go.Sort Go.Proofs
set_option maxRecDepth 100000
set_option maxHeartbeats 16000000

theorem walkGoes_all (a : A) (As Af Ae Ay : Option Addr) (cs cf ce cy : Nat) (yl : List Int) (word : List UInt8) (w : World) (hfa : FaAt w w.heap.size a (.slice As a.start.length cs) (.slice Af a.final.length cf) (.slice Ae a.edges.length ce))
    (h1 : a.start.length ≤ cs) (h2 : a.final.length ≤ cf) (h3 : a.edges.length ≤ ce) (h4 : cs ≤ maxLen) (h5 : cf ≤ maxLen) (h6 : ce ≤ maxLen) (hy : Ints w w.heap.size (.slice Ay yl.length cy) yl) (hyc : yl.length ≤ cy) (_ : cy ≤ maxLen) (hwm : word.length ≤ maxLen) (hok : a.few.ok = true) (hin : (yl.take 8).all (inB a.few.states) = true) :
    Calls Tryz.prog 3 #[vA a (.slice As a.start.length cs) (.slice Af a.final.length cf) (.slice Ae a.edges.length ce), .slice Ay yl.length cy, encStr word] w (fun r w' => r = .returned (.bool true) ∧ Below w.heap.size w w') := by
  obtain ⟨W1, hW1⟩ : ∃ W1, w.alloc (.cells #[.int .i64 a.states, .slice As a.start.length cs, .slice Af a.final.length cf, .slice Ae a.edges.length ce] 25) = W1 := ⟨_, rfl⟩
  have d1 : Below w.heap.size w W1 := hW1 ▸ alloc1 w _
  have b1 : W1.heap[w.heap.size]? = some (.cells #[.int .i64 a.states, .slice As a.start.length cs, .slice Af a.final.length cf, .slice Ae a.edges.length ce] 25 (0, 0)) := by rw [← hW1]; exact heap_alloc_new w _
  have hfew := fun W (h : Below w.heap.size w W) => few_ok a As Af Ae cs cf ce W (hfa.below h h.size) h1 h2 h3 h4 h5 h6
  have hsm := a.few_small
  obtain ⟨ny, hny⟩ : ∃ ny, yl.length = ny := ⟨_, rfl⟩
  obtain ⟨l8, hl8⟩ : ∃ l8, yl.take 8 = l8 := ⟨_, rfl⟩
  have hl8l : l8.length = min ny 8 := by rw [← hl8, List.length_take]; omega
  have hy8 : Ints w w.heap.size (.slice Ay (min ny 8) cy) l8 := by
    have := hy.take (min ny 8) cy (by omega)
    rwa [take_min hny, hl8] at this
  have hcl := fun W (h : Below w.heap.size w W) => clone_int (.slice Ay (min ny 8) cy) l8 W (hy8.below h h.size) (by omega)
  have hl8m : l8.length ≤ 1000000 := by omega
  have mny : min ny 8 ≤ cy := by omega
  unfold maxLen at hwm
  have hfit := hsm.fit hok
  rw [hl8] at hin
  have hinb : Inb a.few l8 := fun s hs => by have := List.all_eq_true.1 hin s hs; simp [inB] at this; omega
  have kR := fun vs vf ve W h => rright_ok a.few vs vf ve W h hsm.short
  have kT := fun vs vf ve vl W h hl => there_law a.few vs vf ve vl l8 W h hl hl8m
  rw [hok] at kR
  rw [hin] at kT
  have kC := fun vs vf ve vl W h hl => rclosure_gave a.few vs vf ve vl l8 W h hfit hl hinb hl8m
  have kH := fun vs vf ve vl W h hl => rreach_gave a.few vs vf ve vl l8 W h hfit hl hinb hl8m
  have kA := fun vs vf ve W h hf => ralive_gave a.few vs vf ve W h hfit hf
  have kL := fun vs vf ve W h => rlive_gave a.few vs vf ve W h hfit
  have kS := fun vs vf ve vl W h hl b hb => rstep_gave a.few vs vf ve vl l8 W h hfit hl hinb hl8m b hb
  have mC := fun vs vf ve vl W h hl => closure_got a.few vs vf ve vl l8 W h hsm hok hl hl8m hin
  have mH := fun vs vf ve vl W h hl => reach_got a.few vs vf ve vl l8 W h hsm hok hl hl8m hin
  have mA := fun vs vf ve W h => alive_got a.few vs vf ve W h hsm hok
  have mL := fun vs vf ve W h => live_got a.few vs vf ve W h hsm hok
  have mS := fun vs vf ve vl b hb W h hl => step_got a.few vs vf ve vl l8 b hb W h hsm hok hl hl8m hin
  have nC : (a.few.clo l8).length ≤ 1000000 := Nat.le_trans (A.clo_len hfit l8) (by decide)
  have nH : (a.few.reach l8).length ≤ 1000000 := Nat.le_trans (cl_len _ _ _) (by have := hfit.n; omega)
  have nA : a.few.alive.length ≤ 1000000 := Nat.le_trans (cl_len _ _ _) (by have := hfit.n; omega)
  have nL : a.few.live.length ≤ 1000000 := Nat.le_trans (List.length_filter_le _ _) (Nat.le_trans (cl_len _ _ _) (by have := hfit.n; omega))
  have nS : ∀ b, (a.few.step l8 b).length ≤ 1000000 := fun b => Nat.le_trans (A.clo_len hfit _) (by decide)
  unfold vA at kR kT kC kH kA kL kS mC mH mA mL mS
  rw [hny]
  unfold vA at hfew ⊢
  have HY := Lib.hid (And.intro hny (And.intro hl8l hy8))
  generalize a.few = a' at *
  clear h1 h2 h3 h4 h5 h6 hfa hny hl8 hl8l hy8 hy
  go_enter Tryz.func3, Tryz.ntmps3
  go_wp2_with fail
  refine (wakes_ok _).mono ?_
  rintro e w2 ⟨rfl, d2⟩
  have e1 := keepb b1 d2
  have dw2 := below_next d1 d2
  clear d1 d2 b1 hW1
  go_wp2_with fail
  refine wp_region_auto 9 (by kernel_rfl) (fun w' => Below w2.heap.size w2 w') (fun a b => Below a.heap.size a b)
    (fun i v w' => match i with
      | 0 => v = .agg #[.int .i64 a.states, .slice As a.start.length cs, .slice Af a.final.length cf, .slice Ae a.edges.length ce]
      | 1 => ∃ A1 c1 A2 c2 A3 c3, v = .agg #[.int .i64 a'.states, .slice A1 a'.start.length c1, .slice A2 a'.final.length c2, .slice A3 a'.edges.length c3] ∧ Own encI 1 3 w' w.heap.size (.slice A1 a'.start.length c1) a'.start ∧ Own encI 1 3 w' w.heap.size (.slice A2 a'.final.length c2) a'.final ∧ Own encE 7 73 w' w.heap.size (.slice A3 a'.edges.length c3) a'.edges
      | 2 => v = .slice Ay ny cy
      | 3 => v = .slice Ay ny cy
      | 4 => v = .int .i64 (ny : Nat)
      | 5 => v = .int .i64 (min ny 8 : Nat)
      | 6 => v = .slice Ay (min ny 8) cy
      | 7 => ∃ A c, v = .slice A l8.length c ∧ Own encI 1 3 w' w.heap.size (.slice A l8.length c) l8
      | 8 => ∃ b, v = .pointer (some ⟨b, 0, none⟩) ∧ w2.heap.size ≤ b ∧ w'.heap[b]? = some (.cells #[.int .i64 0, .slice none 0 0, .slice none 0 0, .slice none 0 0] 25 (0, 0))
      | _ => True)
    ?fin ?hfin (by decide) (by kernel_rfl) (by kernel_rfl) (by kernel_rfl) ?hk (Below.refl _ _).drew ?hstep ?htail
  case hfin =>
    intro f
    simp only [List.take_succ_cons, List.take_zero, putF, List.setIfInBounds_toArray, List.set_cons_zero, List.set_cons_succ]
    exact rfl
  case hk =>
    intro i v x y hxy h
    match i with
    | 0 | 2 | 3 | 4 | 5 | 6 => exact h
    | 1 => obtain ⟨A1, c1, A2, c2, A3, c3, h, o1, o2, o3⟩ := h; exact ⟨A1, c1, A2, c2, A3, c3, h, o1.below hxy, o2.below hxy, o3.below hxy⟩
    | 7 => obtain ⟨A, c, h, o⟩ := h; exact ⟨A, c, h, o.below hxy⟩
    | 8 => obtain ⟨b, h, h2, h3⟩ := h; exact ⟨b, h, h2, keepb h3 hxy⟩
    | n + 9 => trivial
  case hstep =>
    intro f w' hR
    obtain ⟨q0, q1, q2, q3⟩ := four (keepb e1 hR)
    have dR := below_next dw2 hR
    refine ⟨?_, ?_, ?_, ?_, ?_, ?_, ?_, ?_, ?_, trivial⟩
    all_goals
      intro hA a1 K hK
      simp only [AfterAll, Region.binds, forall_const, and_true] at hA
    · go_simp
      exact hK _ _ hR (Below.refl _ _) rfl
    · go_simp
      refine (hfew w' dR).mono ?_
      rintro e w3 ⟨⟨vs, vf, ve, rfl, o1, o2, o3⟩, d3⟩
      obtain ⟨A1, c1, rfl, _⟩ := o1.form
      obtain ⟨A2, c2, rfl, _⟩ := o2.form
      obtain ⟨A3, c3, rfl, _⟩ := o3.form
      exact hK _ _ (below_next hR d3) d3 ⟨_, _, _, _, _, _, rfl, o1.lower dR.size, o2.lower dR.size, o3.lower dR.size⟩
    · go_simp
      exact hK _ _ hR (Below.refl _ _) rfl
    · go_simp
      exact hK _ _ hR (Below.refl _ _) rfl
    · go_simp
      exact hK _ _ hR (Below.refl _ _) rfl
    · go_simp
      exact hK _ _ hR (Below.refl _ _) (congrArg (Value.int IntKind.i64) (by omega))
    · go_simp
      exact hK _ _ hR (Below.refl _ _) rfl
    · go_simp
      refine (hcl w' dR).mono ?_
      rintro e w3 ⟨v3, rfl, o3, d3⟩
      obtain ⟨A3, c3, rfl, _⟩ := o3.form
      exact hK _ _ (below_next hR d3) d3 ⟨A3, c3, rfl, o3.lower dR.size⟩
    · go_simp
      exact hK _ _ (below_next hR (alloc1 w' _)) (alloc1 w' _) ⟨w'.heap.size, rfl, hR.size, heap_alloc_new w' _⟩
  case htail =>
    intro f w' hR hP
    obtain ⟨A1, c1, A2, c2, A3, c3, hx1, o1, o2, o3⟩ := hP 1 (by decide)
    obtain ⟨A8, c8, hx7, o8⟩ := hP 7 (by decide)
    obtain ⟨b, hx8, hb0, hb⟩ := hP 8 (by decide)
    have hx0 : f 0 = _ := hP 0 (by decide)
    have hx2 : f 2 = _ := hP 2 (by decide)
    have hx3 : f 3 = _ := hP 3 (by decide)
    have hx4 : f 4 = _ := hP 4 (by decide)
    have hx5 : f 5 = _ := hP 5 (by decide)
    have hx6 : f 6 = _ := hP 6 (by decide)
    rw [hx0, hx1, hx2, hx3, hx4, hx5, hx6, hx7, hx8]
    clear hP hx0 hx1 hx2 hx3 hx4 hx5 hx6 hx7 hx8
    obtain ⟨W6, hW6⟩ : ∃ W6, (((w'.setCell ⟨b, 0, none⟩ (.int .i64 a'.states)).setCell ⟨b, 1, none⟩ (.slice A1 a'.start.length c1)).setCell ⟨b, 2, none⟩ (.slice A2 a'.final.length c2)).setCell ⟨b, 3, none⟩ (.slice A3 a'.edges.length c3) = W6 := ⟨_, rfl⟩
    have hbw : w.heap.size ≤ b := Nat.le_trans dw2.size hb0
    have dR := below_next dw2 hR
    have D6 : Below w.heap.size w W6 := by
      rw [← hW6]
      exact (((dR.setCell (p := ⟨b, 0, none⟩) hbw _).setCell (p := ⟨b, 1, none⟩) hbw _).setCell (p := ⟨b, 2, none⟩) hbw _).setCell (p := ⟨b, 3, none⟩) hbw _
    have E6 : Below w2.heap.size w2 W6 := by
      rw [← hW6]
      exact (((hR.setCell (p := ⟨b, 0, none⟩) hb0 _).setCell (p := ⟨b, 1, none⟩) hb0 _).setCell (p := ⟨b, 2, none⟩) hb0 _).setCell (p := ⟨b, 3, none⟩) hb0 _
    have s1 := (o1.set4 (own_ne o1 hb (by decide)) (.int .i64 a'.states) (.slice A1 a'.start.length c1) (.slice A2 a'.final.length c2) (.slice A3 a'.edges.length c3)).sl encI_len
    have s2 := (o2.set4 (own_ne o2 hb (by decide)) (.int .i64 a'.states) (.slice A1 a'.start.length c1) (.slice A2 a'.final.length c2) (.slice A3 a'.edges.length c3)).sl encI_len
    have s3 := (o3.set4 (own_ne o3 hb (by decide)) (.int .i64 a'.states) (.slice A1 a'.start.length c1) (.slice A2 a'.final.length c2) (.slice A3 a'.edges.length c3)).sl encE_len
    have s8 := (o8.set4 (own_ne o8 hb (by decide)) (.int .i64 a'.states) (.slice A1 a'.start.length c1) (.slice A2 a'.final.length c2) (.slice A3 a'.edges.length c3)).sl encI_len
    have h5 : In5 W6 b a' (.slice A1 a'.start.length c1) (.slice A2 a'.final.length c2) (.slice A3 a'.edges.length c3) := by
      refine ⟨?_, by rw [← hW6]; exact ⟨s1, s2, s3⟩⟩
      rw [← hW6]
      exact heap_set (heap_set (heap_set (heap_set hb 0 _) 1 _) 2 _) 3 _
    rw [hW6] at s8
    have e6 := keepb e1 E6
    obtain ⟨u0, u1, u2, u3⟩ := four hb
    have f0 := free_at hb 0; have f1 := free_at hb 1; have f2 := free_at hb 2; have f3 := free_at hb 3
    obtain ⟨r0, r1, r2, r3⟩ := four h5.h
    clear s1 s2 s3 o1 o2 o3 o8 hb hR dR E6 e1 hbw hb0 dw2
    go_wp2_with fail
    clear u0 u1 u2 u3 f0 f1 f2 f3 r0 r1 r2 r3 hW6 hcl
    have HFEW := Lib.hid hfew
    clear hfew
    have g : GSt w b a a' (.slice As a.start.length cs) (.slice Af a.final.length cf) (.slice Ae a.edges.length ce) (.slice A1 a'.start.length c1) (.slice A2 a'.final.length c2) (.slice A3 a'.edges.length c3) (.slice A8 l8.length c8) l8 W6 := ⟨D6, e6, h5, s8⟩
    clear D6 e6 h5 s8
    have I := IA.nil W6
    refine (kR _ _ _ _ g.a.fa).mono ?_
    rintro e w7 ⟨rfl, d⟩
    replace g := g.next d
    replace I := I.next d
    clear d
    obtain ⟨q0, q1, q2, q3⟩ := four g.a.h
    go_wp2_with fail
    refine (kT _ _ _ _ _ g.a.fa g.l).mono ?_
    rintro e w8 ⟨rfl, d⟩
    replace g := g.next d
    replace I := I.next d
    clear d q0 q1 q2 q3
    obtain ⟨q0, q1, q2, q3⟩ := four g.a.h
    go_wp2_with fail
    clear q0 q1 q2 q3
    refine wp_region_auto 6 (by kernel_rfl) (fun w' => Below w8.heap.size w8 w') (fun a b => Below a.heap.size a b)
      (fun i v w' => match i with
        | 0 => v = .agg #[.int .i64 a'.states, .slice A1 a'.start.length c1, .slice A2 a'.final.length c2, .slice A3 a'.edges.length c3]
        | 1 => v = .slice A8 l8.length c8
        | 2 => ∃ A c, v = .slice A (a'.clo l8).length c ∧ Ints w' w'.heap.size (.slice A (a'.clo l8).length c) (a'.clo l8)
        | 3 => v = .agg #[.int .i64 a'.states, .slice A1 a'.start.length c1, .slice A2 a'.final.length c2, .slice A3 a'.edges.length c3]
        | 4 => v = .slice A8 l8.length c8
        | 5 => ∃ A c, v = .slice A (a'.reach l8).length c ∧ Ints w' w'.heap.size (.slice A (a'.reach l8).length c) (a'.reach l8)
        | _ => True)
      ?finw9 ?hfinw9 (by decide) (by kernel_rfl) (by kernel_rfl) (by kernel_rfl) ?hkw9 (Below.refl _ _).drew ?hstepw9 ?htailw9
    case hfinw9 =>
      intro f
      simp only [List.take_succ_cons, List.take_zero, putF, List.setIfInBounds_toArray, List.set_cons_zero, List.set_cons_succ]
      exact rfl
    case hkw9 =>
      intro i v x y hxy h
      match i with
      | 0 | 1 | 3 | 4 => exact h
      | 2 => obtain ⟨A, c, h1, h2⟩ := h; exact ⟨A, c, h1, h2.below hxy hxy.size⟩
      | 5 => obtain ⟨A, c, h1, h2⟩ := h; exact ⟨A, c, h1, h2.below hxy hxy.size⟩
      | n + 6 => trivial
    case hstepw9 =>
      intro f w' hR
      have g := g.next hR
      obtain ⟨q0, q1, q2, q3⟩ := four g.a.h
      refine ⟨?_, ?_, ?_, ?_, ?_, ?_, trivial⟩
      all_goals
        intro hA a1 K hK
        simp only [AfterAll, Region.binds, forall_const, and_true] at hA
      · go_simp
        exact hK _ _ hR (Below.refl _ _) rfl
      · go_simp
        exact hK _ _ hR (Below.refl _ _) rfl
      · go_simp
        refine (kC _ _ _ _ w' g.a.fa g.l).mono ?_
        rintro e w2 ⟨⟨A, c, rfl, hs⟩, d2⟩
        exact hK _ _ (below_next hR d2) d2 ⟨A, c, rfl, hs⟩
      · go_simp
        exact hK _ _ hR (Below.refl _ _) rfl
      · go_simp
        exact hK _ _ hR (Below.refl _ _) rfl
      · go_simp
        refine (kH _ _ _ _ w' g.a.fa g.l).mono ?_
        rintro e w2 ⟨⟨A, c, rfl, hs⟩, d2⟩
        exact hK _ _ (below_next hR d2) d2 ⟨A, c, rfl, hs⟩
    case htailw9 =>
    intro f w9 hR hP
    have x0 : f 0 = _ := hP 0 (by decide)
    have x1 : f 1 = _ := hP 1 (by decide)
    obtain ⟨Bw92, ew92, x2, y2⟩ := hP 2 (by decide)
    have x3 : f 3 = _ := hP 3 (by decide)
    have x4 : f 4 = _ := hP 4 (by decide)
    obtain ⟨Bw95, ew95, x5, y5⟩ := hP 5 (by decide)
    rw [x0, x1, x2, x3, x4, x5]
    clear hP x0 x1 x2 x3 x4 x5
    replace g := g.next hR
    replace I := I.next hR
    replace I := I.add y2
    clear y2
    replace I := I.add y5
    clear y5
    clear hR
    obtain ⟨q0, q1, q2, q3⟩ := four g.a.h
    go_wp2_with fail
    clear q0 q1 q2 q3
    refine wp_region_auto 6 (by kernel_rfl) (fun w' => Below w9.heap.size w9 w') (fun a b => Below a.heap.size a b)
      (fun i v w' => match i with
        | 0 => v = .agg #[.int .i64 a'.states, .slice A1 a'.start.length c1, .slice A2 a'.final.length c2, .slice A3 a'.edges.length c3]
        | 1 => v = .pointer (some ⟨b, 2, none⟩)
        | 2 => v = .slice A2 a'.final.length c2
        | 3 => ∃ A c, v = .slice A (a'.alive).length c ∧ Ints w' w'.heap.size (.slice A (a'.alive).length c) (a'.alive)
        | 4 => v = .agg #[.int .i64 a'.states, .slice A1 a'.start.length c1, .slice A2 a'.final.length c2, .slice A3 a'.edges.length c3]
        | 5 => ∃ A c, v = .slice A (a'.live).length c ∧ Ints w' w'.heap.size (.slice A (a'.live).length c) (a'.live)
        | _ => True)
      ?finw10 ?hfinw10 (by decide) (by kernel_rfl) (by kernel_rfl) (by kernel_rfl) ?hkw10 (Below.refl _ _).drew ?hstepw10 ?htailw10
    case hfinw10 =>
      intro f
      simp only [List.take_succ_cons, List.take_zero, putF, List.setIfInBounds_toArray, List.set_cons_zero, List.set_cons_succ]
      exact rfl
    case hkw10 =>
      intro i v x y hxy h
      match i with
      | 0 | 1 | 2 | 4 => exact h
      | 3 => obtain ⟨A, c, h1, h2⟩ := h; exact ⟨A, c, h1, h2.below hxy hxy.size⟩
      | 5 => obtain ⟨A, c, h1, h2⟩ := h; exact ⟨A, c, h1, h2.below hxy hxy.size⟩
      | n + 6 => trivial
    case hstepw10 =>
      intro f w' hR
      have g := g.next hR
      obtain ⟨q0, q1, q2, q3⟩ := four g.a.h
      refine ⟨?_, ?_, ?_, ?_, ?_, ?_, trivial⟩
      all_goals
        intro hA a1 K hK
        simp only [AfterAll, Region.binds, forall_const, and_true] at hA
      · go_simp
        exact hK _ _ hR (Below.refl _ _) rfl
      · go_simp
        exact hK _ _ hR (Below.refl _ _) rfl
      · go_simp
        exact hK _ _ hR (Below.refl _ _) rfl
      · go_simp
        refine (kA _ _ _ w' g.a.fa g.a.fa.f).mono ?_
        rintro e w2 ⟨⟨A, c, rfl, hs⟩, d2⟩
        exact hK _ _ (below_next hR d2) d2 ⟨A, c, rfl, hs⟩
      · go_simp
        exact hK _ _ hR (Below.refl _ _) rfl
      · go_simp
        refine (kL _ _ _ w' g.a.fa).mono ?_
        rintro e w2 ⟨⟨A, c, rfl, hs⟩, d2⟩
        exact hK _ _ (below_next hR d2) d2 ⟨A, c, rfl, hs⟩
    case htailw10 =>
    intro f w10 hR hP
    have x0 : f 0 = _ := hP 0 (by decide)
    have x1 : f 1 = _ := hP 1 (by decide)
    have x2 : f 2 = _ := hP 2 (by decide)
    obtain ⟨Bw103, ew103, x3, y3⟩ := hP 3 (by decide)
    have x4 : f 4 = _ := hP 4 (by decide)
    obtain ⟨Bw105, ew105, x5, y5⟩ := hP 5 (by decide)
    rw [x0, x1, x2, x3, x4, x5]
    clear hP x0 x1 x2 x3 x4 x5
    replace g := g.next hR
    replace I := I.next hR
    replace I := I.add y3
    clear y3
    replace I := I.add y5
    clear y5
    clear hR
    obtain ⟨q0, q1, q2, q3⟩ := four g.a.h
    go_wp2_with fail
    refine (mC _ _ _ _ _ g.a.fa g.l).mono ?_
    rintro e w11 ⟨⟨Ap, cp, rfl, yp⟩, d⟩
    replace g := g.next d
    replace I := I.next d
    replace I := I.add yp
    clear yp
    clear d q0 q1 q2 q3
    obtain ⟨q0, q1, q2, q3⟩ := four g.a.h
    go_wp2_with fail
    refine (mH _ _ _ _ _ g.a.fa g.l).mono ?_
    rintro e w12 ⟨⟨Aq, cq, rfl, yq⟩, d⟩
    replace g := g.next d
    replace I := I.next d
    replace I := I.add yq
    clear yq
    clear d q0 q1 q2 q3
    obtain ⟨q0, q1, q2, q3⟩ := four g.a.h
    go_wp2_with fail
    refine (mA _ _ _ _ g.a.fa).mono ?_
    rintro e w13 ⟨⟨Ar, cr, rfl, yr⟩, d⟩
    replace g := g.next d
    replace I := I.next d
    replace I := I.add yr
    clear yr
    clear d q0 q1 q2 q3
    obtain ⟨q0, q1, q2, q3⟩ := four g.a.h
    go_wp2_with fail
    refine (mL _ _ _ _ g.a.fa).mono ?_
    rintro e w14 ⟨⟨At, ct, rfl, yt⟩, d⟩
    replace g := g.next d
    replace I := I.next d
    replace I := I.add yt
    clear yt
    clear d q0 q1 q2 q3
    obtain ⟨q0, q1, q2, q3⟩ := four g.a.h
    go_wp2_with fail
    refine (same_eq2 _ _ (a'.clo l8) _ (I.h (_, a'.clo l8) (by simp)) (I.h (_, a'.clo l8) (by simp)) nC).mono ?_
    rintro e w15 ⟨rfl, d⟩
    replace g := g.next d
    replace I := I.next d
    clear d q0 q1 q2 q3
    obtain ⟨q0, q1, q2, q3⟩ := four g.a.h
    go_wp2_with fail
    refine (same_eq2 _ _ (a'.reach l8) _ (I.h (_, a'.reach l8) (by simp)) (I.h (_, a'.reach l8) (by simp)) nH).mono ?_
    rintro e w16 ⟨rfl, d⟩
    replace g := g.next d
    replace I := I.next d
    clear d q0 q1 q2 q3
    obtain ⟨q0, q1, q2, q3⟩ := four g.a.h
    go_wp2_with fail
    refine (same_eq2 _ _ (a'.alive) _ (I.h (_, a'.alive) (by simp)) (I.h (_, a'.alive) (by simp)) nA).mono ?_
    rintro e w17 ⟨rfl, d⟩
    replace g := g.next d
    replace I := I.next d
    clear d q0 q1 q2 q3
    obtain ⟨q0, q1, q2, q3⟩ := four g.a.h
    go_wp2_with fail
    refine (same_eq2 _ _ (a'.live) _ (I.h (_, a'.live) (by simp)) (I.h (_, a'.live) (by simp)) nL).mono ?_
    rintro e w18 ⟨rfl, d⟩
    replace g := g.next d
    replace I := I.next d
    clear d q0 q1 q2 q3
    obtain ⟨cc, Wc, hconv, dc, zc, hby, hcc⟩ := conv_bytes w18 word
    replace g := g.next dc
    clear dc zc hcc
    have HB := Lib.hid hby
    clear hby
    go_wp2_with fail
    clear hconv
    go_loopw [127] (fun i wr => ∃ k : Nat, k ≤ word.length ∧ i = .int .i64 k ∧ Below Wc.heap.size Wc wr) (fun i _ => word.length - (intOf i).toNat)
    case atStart => exact ⟨0, Nat.zero_le _, rfl, Below.refl _ _⟩
    case round =>
      obtain ⟨k, hk, rfl, hb⟩ := hrel
      replace g := g.next hb
      by_cases hlt : k < word.length
      · have hcu := (hb.cell (p := ⟨w18.heap.size, k, none⟩) (World.block_lt_of_cell? _ _ (HB.out k hlt))).trans (HB.out k hlt)
        have hu256 : word[k].toNat < 256 := word[k].toNat_lt
        have hnS := nS word[k].toNat
        have kS2 := fun vs vf ve vl W h hl => kS vs vf ve vl W h hl _ hu256
        have mS2 := fun vs vf ve vl W h hl => mS vs vf ve vl _ hu256 W h hl
        have hi2 : (k : Int) < word.length := by omega
        generalize word[k].toNat = bt at *
        by_cases h6 : ((k : Int) == 6) = true
        · clear kS mS kS2 mS2
          go_wp2_with fail
          refine wp_region_gauto 12 (by kernel_rfl) (fun w' => Below wr.heap.size wr w') (fun a b => Below a.heap.size a b)
            (fun i v w' => match i with
              | 0 => v = .agg #[.int .i64 a'.states, .slice A1 a'.start.length c1, .slice A2 a'.final.length c2, .slice A3 a'.edges.length c3]
              | 1 => v = .agg #[.int .i64 a.states, .slice As a.start.length cs, .slice Af a.final.length cf, .slice Ae a.edges.length ce]
              | 2 => ∃ B1 e1 B2 e2 B3 e3, v = .agg #[.int .i64 a'.states, .slice B1 a'.start.length e1, .slice B2 a'.final.length e2, .slice B3 a'.edges.length e3] ∧ FaAt w' w'.heap.size a' (.slice B1 a'.start.length e1) (.slice B2 a'.final.length e2) (.slice B3 a'.edges.length e3)
              | 3 => v = .bool true
              | 4 => v = .bool true
              | 5 => v = .slice A8 l8.length c8
              | 6 => v = .slice Ay ny cy
              | 7 => v = .slice A8 l8.length c8
              | 8 => v = .int .i64 (l8.length : Nat)
              | 9 => v = .slice Ay l8.length cy
              | 10 => v = .bool true
              | 11 => v = .bool true
              | _ => True)
            ?fina ?hfina (by decide) (by kernel_rfl) (by kernel_rfl) (by kernel_rfl) ?hka (Below.refl _ _).drew ?hstepa ?htaila
          case hfina =>
            intro f
            simp only [List.take_succ_cons, List.take_zero, putF, List.setIfInBounds_toArray, List.set_cons_zero, List.set_cons_succ]
            exact rfl
          case hka =>
            intro i v x y hxy h
            match i with
            | 0 | 1 | 3 | 4 | 5 | 6 | 7 | 8 | 9 | 10 | 11 => exact h
            | 2 => obtain ⟨B1, e1, B2, e2, B3, e3, h1, h2⟩ := h; exact ⟨B1, e1, B2, e2, B3, e3, h1, h2.below hxy hxy.size⟩
            | n + 12 => trivial
          case hstepa =>
            intro f w' hR
            have g := g.next hR
            obtain ⟨q0, q1, q2, q3⟩ := four g.a.h
            obtain ⟨p0, p1, p2, p3⟩ := four g.x
            obtain ⟨_, hl8l, hy8⟩ := HY.out
            rw [← hl8l] at hy8
            have hyl : l8.length ≤ cy := by omega
            clear hl8l
            refine ⟨?_, ?_, ?_, ?_, ?_, ?_, ?_, ?_, ?_, ?_, ?_, ?_, trivial⟩
            all_goals
              intro hA a1 K hK
              simp only [AfterAll, Region.binds, forall_const, and_true] at hA
              try rw [if_pos (show Region.wanted _ _ = true by simp [Region.wanted, yielded, hA])]
            · go_simp
              exact hK _ _ hR (Below.refl _ _) rfl
            · go_simp
              exact hK _ _ hR (Below.refl _ _) rfl
            · go_simp
              refine (HFEW.out w' g.d).mono ?_
              rintro e w3 ⟨⟨vs, vf, ve, rfl, o1, o2, o3⟩, d3⟩
              have k1 := o1.sl encI_len
              have k2 := o2.sl encI_len
              have k3 := o3.sl encE_len
              obtain ⟨B1, e1, rfl, _⟩ := o1.form
              obtain ⟨B2, e2, rfl, _⟩ := o2.form
              obtain ⟨B3, e3, rfl, _⟩ := o3.form
              exact hK _ _ (below_next hR d3) d3 ⟨_, _, _, _, _, _, rfl, k1, k2, k3⟩
            · obtain ⟨x0, ⟨B1, e1, B2, e2, B3, e3, x2, hf⟩, _⟩ := hA
              have hsame := rsame_ok a' a' _ _ _ _ _ _ w' g.a.fa hf hsm.short hsm.short
              rw [decide_eq_true rfl] at hsame
              unfold vA at hsame
              go_simp
              refine hsame.mono ?_
              rintro e w3 ⟨rfl, d3⟩
              exact hK _ _ (below_next hR d3) d3 rfl
            · go_simp
              exact hK _ _ hR (Below.refl _ _) rfl
            · go_simp
              exact hK _ _ hR (Below.refl _ _) rfl
            · go_simp
              exact hK _ _ hR (Below.refl _ _) rfl
            · go_simp
              exact hK _ _ hR (Below.refl _ _) rfl
            · go_simp
              exact hK _ _ hR (Below.refl _ _) rfl
            · go_simp
              exact hK _ _ hR (Below.refl _ _) rfl
            · go_simp
              refine (same_eq2 _ _ l8 w' g.l (hy8.below g.d g.d.size) hl8m).mono ?_
              rintro e w3 ⟨rfl, d3⟩
              exact hK _ _ (below_next hR d3) d3 rfl
            · go_simp
              exact hK _ _ hR (Below.refl _ _) rfl
          case htaila =>
            intro f w' hR hP
            have x11 : f 11 = _ := hP 11 (by decide)
            rw [x11]
            clear hP
            have g := g.next hR
            go_wp2_with fail
            go_ret
            exact ⟨rfl, g.d⟩
        · have h6f : ((k : Int) == 6) = false := by simpa using h6
          clear h6 kS mS
          obtain ⟨q0, q1, q2, q3⟩ := four g.a.h
          have hbi : (bt : Int) < 256 := by omega
          go_wp2_with fail
          refine (kS2 _ _ _ _ wr g.a.fa g.l).mono ?_
          rintro e wa ⟨⟨Ax, cx, rfl, yx⟩, da⟩
          have hba := below_next hb da
          replace g := g.next da
          clear q0 q1 q2 q3 kS2
          obtain ⟨q0, q1, q2, q3⟩ := four g.a.h
          go_wp2_with fail
          refine (mS2 _ _ _ _ wa g.a.fa g.l).mono ?_
          rintro e wb ⟨⟨Az, cz, rfl, yz⟩, db⟩
          have hbb := below_next hba db
          have heq := same_eq2 _ _ _ wb yz (yx.below db db.size) hnS
          clear q0 q1 q2 q3 mS2 da db yx yz
          go_wp2_with fail
          refine heq.mono ?_
          rintro e wc ⟨rfl, dc⟩
          clear heq
          go_wp2_with fail
          go_roundw
          case rel => exact ⟨k + 1, by omega, by go_num, below_next hbb dc⟩
          case measure => simp [intOf]; omega
      · clear kS mS
        go_wp2_with fail
        refine wp_region_gauto 12 (by kernel_rfl) (fun w' => Below wr.heap.size wr w') (fun a b => Below a.heap.size a b)
          (fun i v w' => match i with
            | 0 => v = .agg #[.int .i64 a'.states, .slice A1 a'.start.length c1, .slice A2 a'.final.length c2, .slice A3 a'.edges.length c3]
            | 1 => v = .agg #[.int .i64 a.states, .slice As a.start.length cs, .slice Af a.final.length cf, .slice Ae a.edges.length ce]
            | 2 => ∃ B1 e1 B2 e2 B3 e3, v = .agg #[.int .i64 a'.states, .slice B1 a'.start.length e1, .slice B2 a'.final.length e2, .slice B3 a'.edges.length e3] ∧ FaAt w' w'.heap.size a' (.slice B1 a'.start.length e1) (.slice B2 a'.final.length e2) (.slice B3 a'.edges.length e3)
            | 3 => v = .bool true
            | 4 => v = .bool true
            | 5 => v = .slice A8 l8.length c8
            | 6 => v = .slice Ay ny cy
            | 7 => v = .slice A8 l8.length c8
            | 8 => v = .int .i64 (l8.length : Nat)
            | 9 => v = .slice Ay l8.length cy
            | 10 => v = .bool true
            | 11 => v = .bool true
            | _ => True)
          ?finb ?hfinb (by decide) (by kernel_rfl) (by kernel_rfl) (by kernel_rfl) ?hkb (Below.refl _ _).drew ?hstepb ?htailb
        case hfinb =>
          intro f
          simp only [List.take_succ_cons, List.take_zero, putF, List.setIfInBounds_toArray, List.set_cons_zero, List.set_cons_succ]
          exact rfl
        case hkb =>
          intro i v x y hxy h
          match i with
          | 0 | 1 | 3 | 4 | 5 | 6 | 7 | 8 | 9 | 10 | 11 => exact h
          | 2 => obtain ⟨B1, e1, B2, e2, B3, e3, h1, h2⟩ := h; exact ⟨B1, e1, B2, e2, B3, e3, h1, h2.below hxy hxy.size⟩
          | n + 12 => trivial
        case hstepb =>
          intro f w' hR
          have g := g.next hR
          obtain ⟨q0, q1, q2, q3⟩ := four g.a.h
          obtain ⟨p0, p1, p2, p3⟩ := four g.x
          obtain ⟨_, hl8l, hy8⟩ := HY.out
          rw [← hl8l] at hy8
          have hyl : l8.length ≤ cy := by omega
          clear hl8l
          refine ⟨?_, ?_, ?_, ?_, ?_, ?_, ?_, ?_, ?_, ?_, ?_, ?_, trivial⟩
          all_goals
            intro hA a1 K hK
            simp only [AfterAll, Region.binds, forall_const, and_true] at hA
            try rw [if_pos (show Region.wanted _ _ = true by simp [Region.wanted, yielded, hA])]
          · go_simp
            exact hK _ _ hR (Below.refl _ _) rfl
          · go_simp
            exact hK _ _ hR (Below.refl _ _) rfl
          · go_simp
            refine (HFEW.out w' g.d).mono ?_
            rintro e w3 ⟨⟨vs, vf, ve, rfl, o1, o2, o3⟩, d3⟩
            have k1 := o1.sl encI_len
            have k2 := o2.sl encI_len
            have k3 := o3.sl encE_len
            obtain ⟨B1, e1, rfl, _⟩ := o1.form
            obtain ⟨B2, e2, rfl, _⟩ := o2.form
            obtain ⟨B3, e3, rfl, _⟩ := o3.form
            exact hK _ _ (below_next hR d3) d3 ⟨_, _, _, _, _, _, rfl, k1, k2, k3⟩
          · obtain ⟨x0, ⟨B1, e1, B2, e2, B3, e3, x2, hf⟩, _⟩ := hA
            have hsame := rsame_ok a' a' _ _ _ _ _ _ w' g.a.fa hf hsm.short hsm.short
            rw [decide_eq_true rfl] at hsame
            unfold vA at hsame
            go_simp
            refine hsame.mono ?_
            rintro e w3 ⟨rfl, d3⟩
            exact hK _ _ (below_next hR d3) d3 rfl
          · go_simp
            exact hK _ _ hR (Below.refl _ _) rfl
          · go_simp
            exact hK _ _ hR (Below.refl _ _) rfl
          · go_simp
            exact hK _ _ hR (Below.refl _ _) rfl
          · go_simp
            exact hK _ _ hR (Below.refl _ _) rfl
          · go_simp
            exact hK _ _ hR (Below.refl _ _) rfl
          · go_simp
            exact hK _ _ hR (Below.refl _ _) rfl
          · go_simp
            refine (same_eq2 _ _ l8 w' g.l (hy8.below g.d g.d.size) hl8m).mono ?_
            rintro e w3 ⟨rfl, d3⟩
            exact hK _ _ (below_next hR d3) d3 rfl
          · go_simp
            exact hK _ _ hR (Below.refl _ _) rfl
        case htailb =>
          intro f w' hR hP
          have x11 : f 11 = _ := hP 11 (by decide)
          rw [x11]
          clear hP
          have g := g.next hR
          go_wp2_with fail
          go_ret
          exact ⟨rfl, g.d⟩
end Go.Proofs.YtakldmbbmefnbaaGreat
/- the statement WalkGoes: the walk, case one of the numbers is no state. -/
namespace Go.Proofs.YtakldmbbmefnbaaGreat
open Go.RowKit Go.Sort Go.Proofs
set_option maxRecDepth 100000
set_option maxHeartbeats 16000000

theorem walkGoes_out (a : A) (As Af Ae Ay : Option Addr) (cs cf ce cy : Nat) (yl : List Int) (word : List UInt8) (w : World) (hfa : FaAt w w.heap.size a (.slice As a.start.length cs) (.slice Af a.final.length cf) (.slice Ae a.edges.length ce))
    (h1 : a.start.length ≤ cs) (h2 : a.final.length ≤ cf) (h3 : a.edges.length ≤ ce) (h4 : cs ≤ maxLen) (h5 : cf ≤ maxLen) (h6 : ce ≤ maxLen) (hy : Ints w w.heap.size (.slice Ay yl.length cy) yl) (hyc : yl.length ≤ cy) (_ : cy ≤ maxLen) (hwm : word.length ≤ maxLen) (hok : a.few.ok = true) (hin : (yl.take 8).all (inB a.few.states) = false) :
    Calls Tryz.prog 3 #[vA a (.slice As a.start.length cs) (.slice Af a.final.length cf) (.slice Ae a.edges.length ce), .slice Ay yl.length cy, encStr word] w (fun r w' => r = .returned (.bool true) ∧ Below w.heap.size w w') := by
  obtain ⟨W1, hW1⟩ : ∃ W1, w.alloc (.cells #[.int .i64 a.states, .slice As a.start.length cs, .slice Af a.final.length cf, .slice Ae a.edges.length ce] 25) = W1 := ⟨_, rfl⟩
  have d1 : Below w.heap.size w W1 := hW1 ▸ alloc1 w _
  have b1 : W1.heap[w.heap.size]? = some (.cells #[.int .i64 a.states, .slice As a.start.length cs, .slice Af a.final.length cf, .slice Ae a.edges.length ce] 25 (0, 0)) := by rw [← hW1]; exact heap_alloc_new w _
  have hfew := fun W (h : Below w.heap.size w W) => few_ok a As Af Ae cs cf ce W (hfa.below h h.size) h1 h2 h3 h4 h5 h6
  have hsm := a.few_small
  obtain ⟨ny, hny⟩ : ∃ ny, yl.length = ny := ⟨_, rfl⟩
  obtain ⟨l8, hl8⟩ : ∃ l8, yl.take 8 = l8 := ⟨_, rfl⟩
  have hl8l : l8.length = min ny 8 := by rw [← hl8, List.length_take]; omega
  have hy8 : Ints w w.heap.size (.slice Ay (min ny 8) cy) l8 := by
    have := hy.take (min ny 8) cy (by omega)
    rwa [take_min hny, hl8] at this
  have hcl := fun W (h : Below w.heap.size w W) => clone_int (.slice Ay (min ny 8) cy) l8 W (hy8.below h h.size) (by omega)
  have hl8m : l8.length ≤ 1000000 := by omega
  have mny : min ny 8 ≤ cy := by omega
  unfold maxLen at hwm
  have hfit := hsm.fit hok
  rw [hl8] at hin
  have hwn : a.few.whyNot l8 = 2 := by unfold A.whyNot; rw [if_pos hok, if_neg (by rw [hin]; decide)]
  have kR := fun vs vf ve W h => rright_ok a.few vs vf ve W h hsm.short
  have kT := fun vs vf ve vl W h hl => there_law a.few vs vf ve vl l8 W h hl hl8m
  rw [hok] at kR
  rw [hin] at kT
  have kA := fun vs vf ve W h hf => ralive_gave a.few vs vf ve W h hfit hf
  have kL := fun vs vf ve W h => rlive_gave a.few vs vf ve W h hfit
  have mC := fun vs vf ve vl W h hl => closure_err a.few vs vf ve vl l8 2 W h hsm hl hl8m hwn (by decide)
  have mH := fun vs vf ve vl W h hl => reach_err a.few vs vf ve vl l8 2 W h hsm hl hl8m hwn (by decide)
  have mA := fun vs vf ve W h => alive_got a.few vs vf ve W h hsm hok
  have mL := fun vs vf ve W h => live_got a.few vs vf ve W h hsm hok
  have mS := fun vs vf ve vl b hb W h hl => step_err a.few vs vf ve vl l8 b hb 2 W h hsm hl hl8m hwn (by decide)
  have nA : a.few.alive.length ≤ 1000000 := Nat.le_trans (cl_len _ _ _) (by have := hfit.n; omega)
  have nL : a.few.live.length ≤ 1000000 := Nat.le_trans (List.length_filter_le _ _) (Nat.le_trans (cl_len _ _ _) (by have := hfit.n; omega))
  have nilEq := fun W => same_eq2 (.slice none 0 0) (.slice none 0 0) [] W (Sl.nil none 0) (Sl.nil none 0) (by decide)
  clear hwn
  unfold vA at kR kT kA kL mC mH mA mL mS
  rw [hny]
  unfold vA at hfew ⊢
  have HY := Lib.hid (And.intro hny (And.intro hl8l hy8))
  generalize a.few = a' at *
  clear h1 h2 h3 h4 h5 h6 hfa hny hl8 hl8l hy8 hy
  go_enter Tryz.func3, Tryz.ntmps3
  go_wp2_with fail
  refine (wakes_ok _).mono ?_
  rintro e w2 ⟨rfl, d2⟩
  have e1 := keepb b1 d2
  have dw2 := below_next d1 d2
  clear d1 d2 b1 hW1
  go_wp2_with fail
  refine wp_region_auto 9 (by kernel_rfl) (fun w' => Below w2.heap.size w2 w') (fun a b => Below a.heap.size a b)
    (fun i v w' => match i with
      | 0 => v = .agg #[.int .i64 a.states, .slice As a.start.length cs, .slice Af a.final.length cf, .slice Ae a.edges.length ce]
      | 1 => ∃ A1 c1 A2 c2 A3 c3, v = .agg #[.int .i64 a'.states, .slice A1 a'.start.length c1, .slice A2 a'.final.length c2, .slice A3 a'.edges.length c3] ∧ Own encI 1 3 w' w.heap.size (.slice A1 a'.start.length c1) a'.start ∧ Own encI 1 3 w' w.heap.size (.slice A2 a'.final.length c2) a'.final ∧ Own encE 7 73 w' w.heap.size (.slice A3 a'.edges.length c3) a'.edges
      | 2 => v = .slice Ay ny cy
      | 3 => v = .slice Ay ny cy
      | 4 => v = .int .i64 (ny : Nat)
      | 5 => v = .int .i64 (min ny 8 : Nat)
      | 6 => v = .slice Ay (min ny 8) cy
      | 7 => ∃ A c, v = .slice A l8.length c ∧ Own encI 1 3 w' w.heap.size (.slice A l8.length c) l8
      | 8 => ∃ b, v = .pointer (some ⟨b, 0, none⟩) ∧ w2.heap.size ≤ b ∧ w'.heap[b]? = some (.cells #[.int .i64 0, .slice none 0 0, .slice none 0 0, .slice none 0 0] 25 (0, 0))
      | _ => True)
    ?fin ?hfin (by decide) (by kernel_rfl) (by kernel_rfl) (by kernel_rfl) ?hk (Below.refl _ _).drew ?hstep ?htail
  case hfin =>
    intro f
    simp only [List.take_succ_cons, List.take_zero, putF, List.setIfInBounds_toArray, List.set_cons_zero, List.set_cons_succ]
    exact rfl
  case hk =>
    intro i v x y hxy h
    match i with
    | 0 | 2 | 3 | 4 | 5 | 6 => exact h
    | 1 => obtain ⟨A1, c1, A2, c2, A3, c3, h, o1, o2, o3⟩ := h; exact ⟨A1, c1, A2, c2, A3, c3, h, o1.below hxy, o2.below hxy, o3.below hxy⟩
    | 7 => obtain ⟨A, c, h, o⟩ := h; exact ⟨A, c, h, o.below hxy⟩
    | 8 => obtain ⟨b, h, h2, h3⟩ := h; exact ⟨b, h, h2, keepb h3 hxy⟩
    | n + 9 => trivial
  case hstep =>
    intro f w' hR
    obtain ⟨q0, q1, q2, q3⟩ := four (keepb e1 hR)
    have dR := below_next dw2 hR
    refine ⟨?_, ?_, ?_, ?_, ?_, ?_, ?_, ?_, ?_, trivial⟩
    all_goals
      intro hA a1 K hK
      simp only [AfterAll, Region.binds, forall_const, and_true] at hA
    · go_simp
      exact hK _ _ hR (Below.refl _ _) rfl
    · go_simp
      refine (hfew w' dR).mono ?_
      rintro e w3 ⟨⟨vs, vf, ve, rfl, o1, o2, o3⟩, d3⟩
      obtain ⟨A1, c1, rfl, _⟩ := o1.form
      obtain ⟨A2, c2, rfl, _⟩ := o2.form
      obtain ⟨A3, c3, rfl, _⟩ := o3.form
      exact hK _ _ (below_next hR d3) d3 ⟨_, _, _, _, _, _, rfl, o1.lower dR.size, o2.lower dR.size, o3.lower dR.size⟩
    · go_simp
      exact hK _ _ hR (Below.refl _ _) rfl
    · go_simp
      exact hK _ _ hR (Below.refl _ _) rfl
    · go_simp
      exact hK _ _ hR (Below.refl _ _) rfl
    · go_simp
      exact hK _ _ hR (Below.refl _ _) (congrArg (Value.int IntKind.i64) (by omega))
    · go_simp
      exact hK _ _ hR (Below.refl _ _) rfl
    · go_simp
      refine (hcl w' dR).mono ?_
      rintro e w3 ⟨v3, rfl, o3, d3⟩
      obtain ⟨A3, c3, rfl, _⟩ := o3.form
      exact hK _ _ (below_next hR d3) d3 ⟨A3, c3, rfl, o3.lower dR.size⟩
    · go_simp
      exact hK _ _ (below_next hR (alloc1 w' _)) (alloc1 w' _) ⟨w'.heap.size, rfl, hR.size, heap_alloc_new w' _⟩
  case htail =>
    intro f w' hR hP
    obtain ⟨A1, c1, A2, c2, A3, c3, hx1, o1, o2, o3⟩ := hP 1 (by decide)
    obtain ⟨A8, c8, hx7, o8⟩ := hP 7 (by decide)
    obtain ⟨b, hx8, hb0, hb⟩ := hP 8 (by decide)
    have hx0 : f 0 = _ := hP 0 (by decide)
    have hx2 : f 2 = _ := hP 2 (by decide)
    have hx3 : f 3 = _ := hP 3 (by decide)
    have hx4 : f 4 = _ := hP 4 (by decide)
    have hx5 : f 5 = _ := hP 5 (by decide)
    have hx6 : f 6 = _ := hP 6 (by decide)
    rw [hx0, hx1, hx2, hx3, hx4, hx5, hx6, hx7, hx8]
    clear hP hx0 hx1 hx2 hx3 hx4 hx5 hx6 hx7 hx8
    obtain ⟨W6, hW6⟩ : ∃ W6, (((w'.setCell ⟨b, 0, none⟩ (.int .i64 a'.states)).setCell ⟨b, 1, none⟩ (.slice A1 a'.start.length c1)).setCell ⟨b, 2, none⟩ (.slice A2 a'.final.length c2)).setCell ⟨b, 3, none⟩ (.slice A3 a'.edges.length c3) = W6 := ⟨_, rfl⟩
    have hbw : w.heap.size ≤ b := Nat.le_trans dw2.size hb0
    have dR := below_next dw2 hR
    have D6 : Below w.heap.size w W6 := by
      rw [← hW6]
      exact (((dR.setCell (p := ⟨b, 0, none⟩) hbw _).setCell (p := ⟨b, 1, none⟩) hbw _).setCell (p := ⟨b, 2, none⟩) hbw _).setCell (p := ⟨b, 3, none⟩) hbw _
    have E6 : Below w2.heap.size w2 W6 := by
      rw [← hW6]
      exact (((hR.setCell (p := ⟨b, 0, none⟩) hb0 _).setCell (p := ⟨b, 1, none⟩) hb0 _).setCell (p := ⟨b, 2, none⟩) hb0 _).setCell (p := ⟨b, 3, none⟩) hb0 _
    have s1 := (o1.set4 (own_ne o1 hb (by decide)) (.int .i64 a'.states) (.slice A1 a'.start.length c1) (.slice A2 a'.final.length c2) (.slice A3 a'.edges.length c3)).sl encI_len
    have s2 := (o2.set4 (own_ne o2 hb (by decide)) (.int .i64 a'.states) (.slice A1 a'.start.length c1) (.slice A2 a'.final.length c2) (.slice A3 a'.edges.length c3)).sl encI_len
    have s3 := (o3.set4 (own_ne o3 hb (by decide)) (.int .i64 a'.states) (.slice A1 a'.start.length c1) (.slice A2 a'.final.length c2) (.slice A3 a'.edges.length c3)).sl encE_len
    have s8 := (o8.set4 (own_ne o8 hb (by decide)) (.int .i64 a'.states) (.slice A1 a'.start.length c1) (.slice A2 a'.final.length c2) (.slice A3 a'.edges.length c3)).sl encI_len
    have h5 : In5 W6 b a' (.slice A1 a'.start.length c1) (.slice A2 a'.final.length c2) (.slice A3 a'.edges.length c3) := by
      refine ⟨?_, by rw [← hW6]; exact ⟨s1, s2, s3⟩⟩
      rw [← hW6]
      exact heap_set (heap_set (heap_set (heap_set hb 0 _) 1 _) 2 _) 3 _
    rw [hW6] at s8
    have e6 := keepb e1 E6
    obtain ⟨u0, u1, u2, u3⟩ := four hb
    have f0 := free_at hb 0; have f1 := free_at hb 1; have f2 := free_at hb 2; have f3 := free_at hb 3
    obtain ⟨r0, r1, r2, r3⟩ := four h5.h
    clear s1 s2 s3 o1 o2 o3 o8 hb hR dR E6 e1 hbw hb0 dw2
    go_wp2_with fail
    clear u0 u1 u2 u3 f0 f1 f2 f3 r0 r1 r2 r3 hW6 hcl
    have HFEW := Lib.hid hfew
    clear hfew
    have g : GSt w b a a' (.slice As a.start.length cs) (.slice Af a.final.length cf) (.slice Ae a.edges.length ce) (.slice A1 a'.start.length c1) (.slice A2 a'.final.length c2) (.slice A3 a'.edges.length c3) (.slice A8 l8.length c8) l8 W6 := ⟨D6, e6, h5, s8⟩
    clear D6 e6 h5 s8
    have I := IA.nil W6
    refine (kR _ _ _ _ g.a.fa).mono ?_
    rintro e w19 ⟨rfl, d⟩
    replace g := g.next d
    replace I := I.next d
    clear d
    obtain ⟨q0, q1, q2, q3⟩ := four g.a.h
    go_wp2_with fail
    refine (kT _ _ _ _ _ g.a.fa g.l).mono ?_
    rintro e w20 ⟨rfl, d⟩
    replace g := g.next d
    replace I := I.next d
    clear d q0 q1 q2 q3
    obtain ⟨q0, q1, q2, q3⟩ := four g.a.h
    go_wp2_with fail
    clear q0 q1 q2 q3
    refine wp_region_auto 6 (by kernel_rfl) (fun w' => Below w20.heap.size w20 w') (fun a b => Below a.heap.size a b)
      (fun i v w' => match i with
        | 0 => v = .agg #[.int .i64 a'.states, .slice A1 a'.start.length c1, .slice A2 a'.final.length c2, .slice A3 a'.edges.length c3]
        | 1 => v = .pointer (some ⟨b, 2, none⟩)
        | 2 => v = .slice A2 a'.final.length c2
        | 3 => ∃ A c, v = .slice A (a'.alive).length c ∧ Ints w' w'.heap.size (.slice A (a'.alive).length c) (a'.alive)
        | 4 => v = .agg #[.int .i64 a'.states, .slice A1 a'.start.length c1, .slice A2 a'.final.length c2, .slice A3 a'.edges.length c3]
        | 5 => ∃ A c, v = .slice A (a'.live).length c ∧ Ints w' w'.heap.size (.slice A (a'.live).length c) (a'.live)
        | _ => True)
      ?finw21 ?hfinw21 (by decide) (by kernel_rfl) (by kernel_rfl) (by kernel_rfl) ?hkw21 (Below.refl _ _).drew ?hstepw21 ?htailw21
    case hfinw21 =>
      intro f
      simp only [List.take_succ_cons, List.take_zero, putF, List.setIfInBounds_toArray, List.set_cons_zero, List.set_cons_succ]
      exact rfl
    case hkw21 =>
      intro i v x y hxy h
      match i with
      | 0 | 1 | 2 | 4 => exact h
      | 3 => obtain ⟨A, c, h1, h2⟩ := h; exact ⟨A, c, h1, h2.below hxy hxy.size⟩
      | 5 => obtain ⟨A, c, h1, h2⟩ := h; exact ⟨A, c, h1, h2.below hxy hxy.size⟩
      | n + 6 => trivial
    case hstepw21 =>
      intro f w' hR
      have g := g.next hR
      obtain ⟨q0, q1, q2, q3⟩ := four g.a.h
      refine ⟨?_, ?_, ?_, ?_, ?_, ?_, trivial⟩
      all_goals
        intro hA a1 K hK
        simp only [AfterAll, Region.binds, forall_const, and_true] at hA
      · go_simp
        exact hK _ _ hR (Below.refl _ _) rfl
      · go_simp
        exact hK _ _ hR (Below.refl _ _) rfl
      · go_simp
        exact hK _ _ hR (Below.refl _ _) rfl
      · go_simp
        refine (kA _ _ _ w' g.a.fa g.a.fa.f).mono ?_
        rintro e w2 ⟨⟨A, c, rfl, hs⟩, d2⟩
        exact hK _ _ (below_next hR d2) d2 ⟨A, c, rfl, hs⟩
      · go_simp
        exact hK _ _ hR (Below.refl _ _) rfl
      · go_simp
        refine (kL _ _ _ w' g.a.fa).mono ?_
        rintro e w2 ⟨⟨A, c, rfl, hs⟩, d2⟩
        exact hK _ _ (below_next hR d2) d2 ⟨A, c, rfl, hs⟩
    case htailw21 =>
    intro f w21 hR hP
    have x0 : f 0 = _ := hP 0 (by decide)
    have x1 : f 1 = _ := hP 1 (by decide)
    have x2 : f 2 = _ := hP 2 (by decide)
    obtain ⟨Bw213, ew213, x3, y3⟩ := hP 3 (by decide)
    have x4 : f 4 = _ := hP 4 (by decide)
    obtain ⟨Bw215, ew215, x5, y5⟩ := hP 5 (by decide)
    rw [x0, x1, x2, x3, x4, x5]
    clear hP x0 x1 x2 x3 x4 x5
    replace g := g.next hR
    replace I := I.next hR
    replace I := I.add y3
    clear y3
    replace I := I.add y5
    clear y5
    clear hR
    obtain ⟨q0, q1, q2, q3⟩ := four g.a.h
    go_wp2_with fail
    refine (mC _ _ _ _ _ g.a.fa g.l).mono ?_
    rintro e w22 ⟨rfl, d⟩
    replace g := g.next d
    replace I := I.next d
    clear d q0 q1 q2 q3
    obtain ⟨q0, q1, q2, q3⟩ := four g.a.h
    go_wp2_with fail
    refine (mH _ _ _ _ _ g.a.fa g.l).mono ?_
    rintro e w23 ⟨rfl, d⟩
    replace g := g.next d
    replace I := I.next d
    clear d q0 q1 q2 q3
    obtain ⟨q0, q1, q2, q3⟩ := four g.a.h
    go_wp2_with fail
    refine (mA _ _ _ _ g.a.fa).mono ?_
    rintro e w24 ⟨⟨Ar, cr, rfl, yr⟩, d⟩
    replace g := g.next d
    replace I := I.next d
    replace I := I.add yr
    clear yr
    clear d q0 q1 q2 q3
    obtain ⟨q0, q1, q2, q3⟩ := four g.a.h
    go_wp2_with fail
    refine (mL _ _ _ _ g.a.fa).mono ?_
    rintro e w25 ⟨⟨At, ct, rfl, yt⟩, d⟩
    replace g := g.next d
    replace I := I.next d
    replace I := I.add yt
    clear yt
    clear d q0 q1 q2 q3
    obtain ⟨q0, q1, q2, q3⟩ := four g.a.h
    go_wp2_with fail
    refine (nilEq _).mono ?_
    rintro e w26 ⟨rfl, d⟩
    replace g := g.next d
    replace I := I.next d
    clear d q0 q1 q2 q3
    obtain ⟨q0, q1, q2, q3⟩ := four g.a.h
    go_wp2_with fail
    refine (nilEq _).mono ?_
    rintro e w27 ⟨rfl, d⟩
    replace g := g.next d
    replace I := I.next d
    clear d q0 q1 q2 q3
    obtain ⟨q0, q1, q2, q3⟩ := four g.a.h
    go_wp2_with fail
    refine (same_eq2 _ _ (a'.alive) _ (I.h (_, a'.alive) (by simp)) (I.h (_, a'.alive) (by simp)) nA).mono ?_
    rintro e w28 ⟨rfl, d⟩
    replace g := g.next d
    replace I := I.next d
    clear d q0 q1 q2 q3
    obtain ⟨q0, q1, q2, q3⟩ := four g.a.h
    go_wp2_with fail
    refine (same_eq2 _ _ (a'.live) _ (I.h (_, a'.live) (by simp)) (I.h (_, a'.live) (by simp)) nL).mono ?_
    rintro e w29 ⟨rfl, d⟩
    replace g := g.next d
    replace I := I.next d
    clear d q0 q1 q2 q3
    obtain ⟨cc, Wc, hconv, dc, zc, hby, hcc⟩ := conv_bytes w29 word
    replace g := g.next dc
    clear dc zc hcc
    have HB := Lib.hid hby
    clear hby
    go_wp2_with fail
    clear hconv
    go_loopw [127] (fun i wr => ∃ k : Nat, k ≤ word.length ∧ i = .int .i64 k ∧ Below Wc.heap.size Wc wr) (fun i _ => word.length - (intOf i).toNat)
    case atStart => exact ⟨0, Nat.zero_le _, rfl, Below.refl _ _⟩
    case round =>
      obtain ⟨k, hk, rfl, hb⟩ := hrel
      replace g := g.next hb
      by_cases hlt : k < word.length
      · have hcu := (hb.cell (p := ⟨w29.heap.size, k, none⟩) (World.block_lt_of_cell? _ _ (HB.out k hlt))).trans (HB.out k hlt)
        have hu256 : word[k].toNat < 256 := word[k].toNat_lt
        have mS2 := fun vs vf ve vl W h hl => mS vs vf ve vl _ hu256 W h hl
        have hi2 : (k : Int) < word.length := by omega
        generalize word[k].toNat = bt at *
        by_cases h6 : ((k : Int) == 6) = true
        · clear mS mS2
          go_wp2_with fail
          refine wp_region_gauto 12 (by kernel_rfl) (fun w' => Below wr.heap.size wr w') (fun a b => Below a.heap.size a b)
            (fun i v w' => match i with
              | 0 => v = .agg #[.int .i64 a'.states, .slice A1 a'.start.length c1, .slice A2 a'.final.length c2, .slice A3 a'.edges.length c3]
              | 1 => v = .agg #[.int .i64 a.states, .slice As a.start.length cs, .slice Af a.final.length cf, .slice Ae a.edges.length ce]
              | 2 => ∃ B1 e1 B2 e2 B3 e3, v = .agg #[.int .i64 a'.states, .slice B1 a'.start.length e1, .slice B2 a'.final.length e2, .slice B3 a'.edges.length e3] ∧ FaAt w' w'.heap.size a' (.slice B1 a'.start.length e1) (.slice B2 a'.final.length e2) (.slice B3 a'.edges.length e3)
              | 3 => v = .bool true
              | 4 => v = .bool true
              | 5 => v = .slice A8 l8.length c8
              | 6 => v = .slice Ay ny cy
              | 7 => v = .slice A8 l8.length c8
              | 8 => v = .int .i64 (l8.length : Nat)
              | 9 => v = .slice Ay l8.length cy
              | 10 => v = .bool true
              | 11 => v = .bool true
              | _ => True)
            ?fina ?hfina (by decide) (by kernel_rfl) (by kernel_rfl) (by kernel_rfl) ?hka (Below.refl _ _).drew ?hstepa ?htaila
          case hfina =>
            intro f
            simp only [List.take_succ_cons, List.take_zero, putF, List.setIfInBounds_toArray, List.set_cons_zero, List.set_cons_succ]
            exact rfl
          case hka =>
            intro i v x y hxy h
            match i with
            | 0 | 1 | 3 | 4 | 5 | 6 | 7 | 8 | 9 | 10 | 11 => exact h
            | 2 => obtain ⟨B1, e1, B2, e2, B3, e3, h1, h2⟩ := h; exact ⟨B1, e1, B2, e2, B3, e3, h1, h2.below hxy hxy.size⟩
            | n + 12 => trivial
          case hstepa =>
            intro f w' hR
            have g := g.next hR
            obtain ⟨q0, q1, q2, q3⟩ := four g.a.h
            obtain ⟨p0, p1, p2, p3⟩ := four g.x
            obtain ⟨_, hl8l, hy8⟩ := HY.out
            rw [← hl8l] at hy8
            have hyl : l8.length ≤ cy := by omega
            clear hl8l
            refine ⟨?_, ?_, ?_, ?_, ?_, ?_, ?_, ?_, ?_, ?_, ?_, ?_, trivial⟩
            all_goals
              intro hA a1 K hK
              simp only [AfterAll, Region.binds, forall_const, and_true] at hA
              try rw [if_pos (show Region.wanted _ _ = true by simp [Region.wanted, yielded, hA])]
            · go_simp
              exact hK _ _ hR (Below.refl _ _) rfl
            · go_simp
              exact hK _ _ hR (Below.refl _ _) rfl
            · go_simp
              refine (HFEW.out w' g.d).mono ?_
              rintro e w3 ⟨⟨vs, vf, ve, rfl, o1, o2, o3⟩, d3⟩
              have k1 := o1.sl encI_len
              have k2 := o2.sl encI_len
              have k3 := o3.sl encE_len
              obtain ⟨B1, e1, rfl, _⟩ := o1.form
              obtain ⟨B2, e2, rfl, _⟩ := o2.form
              obtain ⟨B3, e3, rfl, _⟩ := o3.form
              exact hK _ _ (below_next hR d3) d3 ⟨_, _, _, _, _, _, rfl, k1, k2, k3⟩
            · obtain ⟨x0, ⟨B1, e1, B2, e2, B3, e3, x2, hf⟩, _⟩ := hA
              have hsame := rsame_ok a' a' _ _ _ _ _ _ w' g.a.fa hf hsm.short hsm.short
              rw [decide_eq_true rfl] at hsame
              unfold vA at hsame
              go_simp
              refine hsame.mono ?_
              rintro e w3 ⟨rfl, d3⟩
              exact hK _ _ (below_next hR d3) d3 rfl
            · go_simp
              exact hK _ _ hR (Below.refl _ _) rfl
            · go_simp
              exact hK _ _ hR (Below.refl _ _) rfl
            · go_simp
              exact hK _ _ hR (Below.refl _ _) rfl
            · go_simp
              exact hK _ _ hR (Below.refl _ _) rfl
            · go_simp
              exact hK _ _ hR (Below.refl _ _) rfl
            · go_simp
              exact hK _ _ hR (Below.refl _ _) rfl
            · go_simp
              refine (same_eq2 _ _ l8 w' g.l (hy8.below g.d g.d.size) hl8m).mono ?_
              rintro e w3 ⟨rfl, d3⟩
              exact hK _ _ (below_next hR d3) d3 rfl
            · go_simp
              exact hK _ _ hR (Below.refl _ _) rfl
          case htaila =>
            intro f w' hR hP
            have x11 : f 11 = _ := hP 11 (by decide)
            rw [x11]
            clear hP
            have g := g.next hR
            go_wp2_with fail
            go_ret
            exact ⟨rfl, g.d⟩
        · have h6f : ((k : Int) == 6) = false := by simpa using h6
          clear h6 mS
          obtain ⟨q0, q1, q2, q3⟩ := four g.a.h
          have hbi : (bt : Int) < 256 := by omega
          go_wp2_with fail
          refine (mS2 _ _ _ _ wr g.a.fa g.l).mono ?_
          rintro e wb ⟨rfl, db⟩
          have hbb := below_next hb db
          clear q0 q1 q2 q3 mS2 db
          go_wp2_with fail
          refine (nilEq wb).mono ?_
          rintro e wc ⟨rfl, dc⟩
          go_wp2_with fail
          go_roundw
          case rel => exact ⟨k + 1, by omega, by go_num, below_next hbb dc⟩
          case measure => simp [intOf]; omega
      · clear mS
        go_wp2_with fail
        refine wp_region_gauto 12 (by kernel_rfl) (fun w' => Below wr.heap.size wr w') (fun a b => Below a.heap.size a b)
          (fun i v w' => match i with
            | 0 => v = .agg #[.int .i64 a'.states, .slice A1 a'.start.length c1, .slice A2 a'.final.length c2, .slice A3 a'.edges.length c3]
            | 1 => v = .agg #[.int .i64 a.states, .slice As a.start.length cs, .slice Af a.final.length cf, .slice Ae a.edges.length ce]
            | 2 => ∃ B1 e1 B2 e2 B3 e3, v = .agg #[.int .i64 a'.states, .slice B1 a'.start.length e1, .slice B2 a'.final.length e2, .slice B3 a'.edges.length e3] ∧ FaAt w' w'.heap.size a' (.slice B1 a'.start.length e1) (.slice B2 a'.final.length e2) (.slice B3 a'.edges.length e3)
            | 3 => v = .bool true
            | 4 => v = .bool true
            | 5 => v = .slice A8 l8.length c8
            | 6 => v = .slice Ay ny cy
            | 7 => v = .slice A8 l8.length c8
            | 8 => v = .int .i64 (l8.length : Nat)
            | 9 => v = .slice Ay l8.length cy
            | 10 => v = .bool true
            | 11 => v = .bool true
            | _ => True)
          ?finb ?hfinb (by decide) (by kernel_rfl) (by kernel_rfl) (by kernel_rfl) ?hkb (Below.refl _ _).drew ?hstepb ?htailb
        case hfinb =>
          intro f
          simp only [List.take_succ_cons, List.take_zero, putF, List.setIfInBounds_toArray, List.set_cons_zero, List.set_cons_succ]
          exact rfl
        case hkb =>
          intro i v x y hxy h
          match i with
          | 0 | 1 | 3 | 4 | 5 | 6 | 7 | 8 | 9 | 10 | 11 => exact h
          | 2 => obtain ⟨B1, e1, B2, e2, B3, e3, h1, h2⟩ := h; exact ⟨B1, e1, B2, e2, B3, e3, h1, h2.below hxy hxy.size⟩
          | n + 12 => trivial
        case hstepb =>
          intro f w' hR
          have g := g.next hR
          obtain ⟨q0, q1, q2, q3⟩ := four g.a.h
          obtain ⟨p0, p1, p2, p3⟩ := four g.x
          obtain ⟨_, hl8l, hy8⟩ := HY.out
          rw [← hl8l] at hy8
          have hyl : l8.length ≤ cy := by omega
          clear hl8l
          refine ⟨?_, ?_, ?_, ?_, ?_, ?_, ?_, ?_, ?_, ?_, ?_, ?_, trivial⟩
          all_goals
            intro hA a1 K hK
            simp only [AfterAll, Region.binds, forall_const, and_true] at hA
            try rw [if_pos (show Region.wanted _ _ = true by simp [Region.wanted, yielded, hA])]
          · go_simp
            exact hK _ _ hR (Below.refl _ _) rfl
          · go_simp
            exact hK _ _ hR (Below.refl _ _) rfl
          · go_simp
            refine (HFEW.out w' g.d).mono ?_
            rintro e w3 ⟨⟨vs, vf, ve, rfl, o1, o2, o3⟩, d3⟩
            have k1 := o1.sl encI_len
            have k2 := o2.sl encI_len
            have k3 := o3.sl encE_len
            obtain ⟨B1, e1, rfl, _⟩ := o1.form
            obtain ⟨B2, e2, rfl, _⟩ := o2.form
            obtain ⟨B3, e3, rfl, _⟩ := o3.form
            exact hK _ _ (below_next hR d3) d3 ⟨_, _, _, _, _, _, rfl, k1, k2, k3⟩
          · obtain ⟨x0, ⟨B1, e1, B2, e2, B3, e3, x2, hf⟩, _⟩ := hA
            have hsame := rsame_ok a' a' _ _ _ _ _ _ w' g.a.fa hf hsm.short hsm.short
            rw [decide_eq_true rfl] at hsame
            unfold vA at hsame
            go_simp
            refine hsame.mono ?_
            rintro e w3 ⟨rfl, d3⟩
            exact hK _ _ (below_next hR d3) d3 rfl
          · go_simp
            exact hK _ _ hR (Below.refl _ _) rfl
          · go_simp
            exact hK _ _ hR (Below.refl _ _) rfl
          · go_simp
            exact hK _ _ hR (Below.refl _ _) rfl
          · go_simp
            exact hK _ _ hR (Below.refl _ _) rfl
          · go_simp
            exact hK _ _ hR (Below.refl _ _) rfl
          · go_simp
            exact hK _ _ hR (Below.refl _ _) rfl
          · go_simp
            refine (same_eq2 _ _ l8 w' g.l (hy8.below g.d g.d.size) hl8m).mono ?_
            rintro e w3 ⟨rfl, d3⟩
            exact hK _ _ (below_next hR d3) d3 rfl
          · go_simp
            exact hK _ _ hR (Below.refl _ _) rfl
        case htailb =>
          intro f w' hR hP
          have x11 : f 11 = _ := hP 11 (by decide)
          rw [x11]
          clear hP
          have g := g.next hR
          go_wp2_with fail
          go_ret
          exact ⟨rfl, g.d⟩
end Go.Proofs.YtakldmbbmefnbaaGreat
/- the statement WalkGoes: the walk, case no automaton. -/
namespace Go.Proofs.YtakldmbbmefnbaaGreat
open Go.RowKit Go.Sort Go.Proofs
set_option maxRecDepth 100000
set_option maxHeartbeats 16000000

theorem walkGoes_bad (a : A) (As Af Ae Ay : Option Addr) (cs cf ce cy : Nat) (yl : List Int) (word : List UInt8) (w : World) (hfa : FaAt w w.heap.size a (.slice As a.start.length cs) (.slice Af a.final.length cf) (.slice Ae a.edges.length ce))
    (h1 : a.start.length ≤ cs) (h2 : a.final.length ≤ cf) (h3 : a.edges.length ≤ ce) (h4 : cs ≤ maxLen) (h5 : cf ≤ maxLen) (h6 : ce ≤ maxLen) (hy : Ints w w.heap.size (.slice Ay yl.length cy) yl) (hyc : yl.length ≤ cy) (_ : cy ≤ maxLen) (hwm : word.length ≤ maxLen) (hok : a.few.ok = false) :
    Calls Tryz.prog 3 #[vA a (.slice As a.start.length cs) (.slice Af a.final.length cf) (.slice Ae a.edges.length ce), .slice Ay yl.length cy, encStr word] w (fun r w' => r = .returned (.bool true) ∧ Below w.heap.size w w') := by
  obtain ⟨W1, hW1⟩ : ∃ W1, w.alloc (.cells #[.int .i64 a.states, .slice As a.start.length cs, .slice Af a.final.length cf, .slice Ae a.edges.length ce] 25) = W1 := ⟨_, rfl⟩
  have d1 : Below w.heap.size w W1 := hW1 ▸ alloc1 w _
  have b1 : W1.heap[w.heap.size]? = some (.cells #[.int .i64 a.states, .slice As a.start.length cs, .slice Af a.final.length cf, .slice Ae a.edges.length ce] 25 (0, 0)) := by rw [← hW1]; exact heap_alloc_new w _
  have hfew := fun W (h : Below w.heap.size w W) => few_ok a As Af Ae cs cf ce W (hfa.below h h.size) h1 h2 h3 h4 h5 h6
  have hsm := a.few_small
  obtain ⟨ny, hny⟩ : ∃ ny, yl.length = ny := ⟨_, rfl⟩
  obtain ⟨l8, hl8⟩ : ∃ l8, yl.take 8 = l8 := ⟨_, rfl⟩
  have hl8l : l8.length = min ny 8 := by rw [← hl8, List.length_take]; omega
  have hy8 : Ints w w.heap.size (.slice Ay (min ny 8) cy) l8 := by
    have := hy.take (min ny 8) cy (by omega)
    rwa [take_min hny, hl8] at this
  have hcl := fun W (h : Below w.heap.size w W) => clone_int (.slice Ay (min ny 8) cy) l8 W (hy8.below h h.size) (by omega)
  have hl8m : l8.length ≤ 1000000 := by omega
  have mny : min ny 8 ≤ cy := by omega
  unfold maxLen at hwm
  have hwn : a.few.whyNot l8 = 260 := by unfold A.whyNot; rw [if_neg (by rw [hok]; decide)]
  have kR := fun vs vf ve W h => rright_ok a.few vs vf ve W h hsm.short
  rw [hok] at kR
  have mC := fun vs vf ve vl W h hl => closure_err a.few vs vf ve vl l8 260 W h hsm hl hl8m hwn (by decide)
  have mH := fun vs vf ve vl W h hl => reach_err a.few vs vf ve vl l8 260 W h hsm hl hl8m hwn (by decide)
  have mA := fun vs vf ve W h => alive_bad a.few vs vf ve W h hsm hok
  have mL := fun vs vf ve W h => live_bad a.few vs vf ve W h hsm hok
  have mS := fun vs vf ve vl b hb W h hl => step_err a.few vs vf ve vl l8 b hb 260 W h hsm hl hl8m hwn (by decide)
  have nilEq := fun W => same_eq2 (.slice none 0 0) (.slice none 0 0) [] W (Sl.nil none 0) (Sl.nil none 0) (by decide)
  clear hwn
  unfold vA at kR mC mH mA mL mS
  rw [hny]
  unfold vA at hfew ⊢
  have HY := Lib.hid (And.intro hny (And.intro hl8l hy8))
  generalize a.few = a' at *
  clear h1 h2 h3 h4 h5 h6 hfa hny hl8 hl8l hy8 hy
  go_enter Tryz.func3, Tryz.ntmps3
  go_wp2_with fail
  refine (wakes_ok _).mono ?_
  rintro e w2 ⟨rfl, d2⟩
  have e1 := keepb b1 d2
  have dw2 := below_next d1 d2
  clear d1 d2 b1 hW1
  go_wp2_with fail
  refine wp_region_auto 9 (by kernel_rfl) (fun w' => Below w2.heap.size w2 w') (fun a b => Below a.heap.size a b)
    (fun i v w' => match i with
      | 0 => v = .agg #[.int .i64 a.states, .slice As a.start.length cs, .slice Af a.final.length cf, .slice Ae a.edges.length ce]
      | 1 => ∃ A1 c1 A2 c2 A3 c3, v = .agg #[.int .i64 a'.states, .slice A1 a'.start.length c1, .slice A2 a'.final.length c2, .slice A3 a'.edges.length c3] ∧ Own encI 1 3 w' w.heap.size (.slice A1 a'.start.length c1) a'.start ∧ Own encI 1 3 w' w.heap.size (.slice A2 a'.final.length c2) a'.final ∧ Own encE 7 73 w' w.heap.size (.slice A3 a'.edges.length c3) a'.edges
      | 2 => v = .slice Ay ny cy
      | 3 => v = .slice Ay ny cy
      | 4 => v = .int .i64 (ny : Nat)
      | 5 => v = .int .i64 (min ny 8 : Nat)
      | 6 => v = .slice Ay (min ny 8) cy
      | 7 => ∃ A c, v = .slice A l8.length c ∧ Own encI 1 3 w' w.heap.size (.slice A l8.length c) l8
      | 8 => ∃ b, v = .pointer (some ⟨b, 0, none⟩) ∧ w2.heap.size ≤ b ∧ w'.heap[b]? = some (.cells #[.int .i64 0, .slice none 0 0, .slice none 0 0, .slice none 0 0] 25 (0, 0))
      | _ => True)
    ?fin ?hfin (by decide) (by kernel_rfl) (by kernel_rfl) (by kernel_rfl) ?hk (Below.refl _ _).drew ?hstep ?htail
  case hfin =>
    intro f
    simp only [List.take_succ_cons, List.take_zero, putF, List.setIfInBounds_toArray, List.set_cons_zero, List.set_cons_succ]
    exact rfl
  case hk =>
    intro i v x y hxy h
    match i with
    | 0 | 2 | 3 | 4 | 5 | 6 => exact h
    | 1 => obtain ⟨A1, c1, A2, c2, A3, c3, h, o1, o2, o3⟩ := h; exact ⟨A1, c1, A2, c2, A3, c3, h, o1.below hxy, o2.below hxy, o3.below hxy⟩
    | 7 => obtain ⟨A, c, h, o⟩ := h; exact ⟨A, c, h, o.below hxy⟩
    | 8 => obtain ⟨b, h, h2, h3⟩ := h; exact ⟨b, h, h2, keepb h3 hxy⟩
    | n + 9 => trivial
  case hstep =>
    intro f w' hR
    obtain ⟨q0, q1, q2, q3⟩ := four (keepb e1 hR)
    have dR := below_next dw2 hR
    refine ⟨?_, ?_, ?_, ?_, ?_, ?_, ?_, ?_, ?_, trivial⟩
    all_goals
      intro hA a1 K hK
      simp only [AfterAll, Region.binds, forall_const, and_true] at hA
    · go_simp
      exact hK _ _ hR (Below.refl _ _) rfl
    · go_simp
      refine (hfew w' dR).mono ?_
      rintro e w3 ⟨⟨vs, vf, ve, rfl, o1, o2, o3⟩, d3⟩
      obtain ⟨A1, c1, rfl, _⟩ := o1.form
      obtain ⟨A2, c2, rfl, _⟩ := o2.form
      obtain ⟨A3, c3, rfl, _⟩ := o3.form
      exact hK _ _ (below_next hR d3) d3 ⟨_, _, _, _, _, _, rfl, o1.lower dR.size, o2.lower dR.size, o3.lower dR.size⟩
    · go_simp
      exact hK _ _ hR (Below.refl _ _) rfl
    · go_simp
      exact hK _ _ hR (Below.refl _ _) rfl
    · go_simp
      exact hK _ _ hR (Below.refl _ _) rfl
    · go_simp
      exact hK _ _ hR (Below.refl _ _) (congrArg (Value.int IntKind.i64) (by omega))
    · go_simp
      exact hK _ _ hR (Below.refl _ _) rfl
    · go_simp
      refine (hcl w' dR).mono ?_
      rintro e w3 ⟨v3, rfl, o3, d3⟩
      obtain ⟨A3, c3, rfl, _⟩ := o3.form
      exact hK _ _ (below_next hR d3) d3 ⟨A3, c3, rfl, o3.lower dR.size⟩
    · go_simp
      exact hK _ _ (below_next hR (alloc1 w' _)) (alloc1 w' _) ⟨w'.heap.size, rfl, hR.size, heap_alloc_new w' _⟩
  case htail =>
    intro f w' hR hP
    obtain ⟨A1, c1, A2, c2, A3, c3, hx1, o1, o2, o3⟩ := hP 1 (by decide)
    obtain ⟨A8, c8, hx7, o8⟩ := hP 7 (by decide)
    obtain ⟨b, hx8, hb0, hb⟩ := hP 8 (by decide)
    have hx0 : f 0 = _ := hP 0 (by decide)
    have hx2 : f 2 = _ := hP 2 (by decide)
    have hx3 : f 3 = _ := hP 3 (by decide)
    have hx4 : f 4 = _ := hP 4 (by decide)
    have hx5 : f 5 = _ := hP 5 (by decide)
    have hx6 : f 6 = _ := hP 6 (by decide)
    rw [hx0, hx1, hx2, hx3, hx4, hx5, hx6, hx7, hx8]
    clear hP hx0 hx1 hx2 hx3 hx4 hx5 hx6 hx7 hx8
    obtain ⟨W6, hW6⟩ : ∃ W6, (((w'.setCell ⟨b, 0, none⟩ (.int .i64 a'.states)).setCell ⟨b, 1, none⟩ (.slice A1 a'.start.length c1)).setCell ⟨b, 2, none⟩ (.slice A2 a'.final.length c2)).setCell ⟨b, 3, none⟩ (.slice A3 a'.edges.length c3) = W6 := ⟨_, rfl⟩
    have hbw : w.heap.size ≤ b := Nat.le_trans dw2.size hb0
    have dR := below_next dw2 hR
    have D6 : Below w.heap.size w W6 := by
      rw [← hW6]
      exact (((dR.setCell (p := ⟨b, 0, none⟩) hbw _).setCell (p := ⟨b, 1, none⟩) hbw _).setCell (p := ⟨b, 2, none⟩) hbw _).setCell (p := ⟨b, 3, none⟩) hbw _
    have E6 : Below w2.heap.size w2 W6 := by
      rw [← hW6]
      exact (((hR.setCell (p := ⟨b, 0, none⟩) hb0 _).setCell (p := ⟨b, 1, none⟩) hb0 _).setCell (p := ⟨b, 2, none⟩) hb0 _).setCell (p := ⟨b, 3, none⟩) hb0 _
    have s1 := (o1.set4 (own_ne o1 hb (by decide)) (.int .i64 a'.states) (.slice A1 a'.start.length c1) (.slice A2 a'.final.length c2) (.slice A3 a'.edges.length c3)).sl encI_len
    have s2 := (o2.set4 (own_ne o2 hb (by decide)) (.int .i64 a'.states) (.slice A1 a'.start.length c1) (.slice A2 a'.final.length c2) (.slice A3 a'.edges.length c3)).sl encI_len
    have s3 := (o3.set4 (own_ne o3 hb (by decide)) (.int .i64 a'.states) (.slice A1 a'.start.length c1) (.slice A2 a'.final.length c2) (.slice A3 a'.edges.length c3)).sl encE_len
    have s8 := (o8.set4 (own_ne o8 hb (by decide)) (.int .i64 a'.states) (.slice A1 a'.start.length c1) (.slice A2 a'.final.length c2) (.slice A3 a'.edges.length c3)).sl encI_len
    have h5 : In5 W6 b a' (.slice A1 a'.start.length c1) (.slice A2 a'.final.length c2) (.slice A3 a'.edges.length c3) := by
      refine ⟨?_, by rw [← hW6]; exact ⟨s1, s2, s3⟩⟩
      rw [← hW6]
      exact heap_set (heap_set (heap_set (heap_set hb 0 _) 1 _) 2 _) 3 _
    rw [hW6] at s8
    have e6 := keepb e1 E6
    obtain ⟨u0, u1, u2, u3⟩ := four hb
    have f0 := free_at hb 0; have f1 := free_at hb 1; have f2 := free_at hb 2; have f3 := free_at hb 3
    obtain ⟨r0, r1, r2, r3⟩ := four h5.h
    clear s1 s2 s3 o1 o2 o3 o8 hb hR dR E6 e1 hbw hb0 dw2
    go_wp2_with fail
    clear u0 u1 u2 u3 f0 f1 f2 f3 r0 r1 r2 r3 hW6 hcl
    have HFEW := Lib.hid hfew
    clear hfew
    have g : GSt w b a a' (.slice As a.start.length cs) (.slice Af a.final.length cf) (.slice Ae a.edges.length ce) (.slice A1 a'.start.length c1) (.slice A2 a'.final.length c2) (.slice A3 a'.edges.length c3) (.slice A8 l8.length c8) l8 W6 := ⟨D6, e6, h5, s8⟩
    clear D6 e6 h5 s8
    have I := IA.nil W6
    refine (kR _ _ _ _ g.a.fa).mono ?_
    rintro e w30 ⟨rfl, d⟩
    replace g := g.next d
    replace I := I.next d
    clear d
    obtain ⟨q0, q1, q2, q3⟩ := four g.a.h
    go_wp2_with fail
    refine (mC _ _ _ _ _ g.a.fa g.l).mono ?_
    rintro e w31 ⟨rfl, d⟩
    replace g := g.next d
    replace I := I.next d
    clear d q0 q1 q2 q3
    obtain ⟨q0, q1, q2, q3⟩ := four g.a.h
    go_wp2_with fail
    refine (mH _ _ _ _ _ g.a.fa g.l).mono ?_
    rintro e w32 ⟨rfl, d⟩
    replace g := g.next d
    replace I := I.next d
    clear d q0 q1 q2 q3
    obtain ⟨q0, q1, q2, q3⟩ := four g.a.h
    go_wp2_with fail
    refine (mA _ _ _ _ g.a.fa).mono ?_
    rintro e w33 ⟨rfl, d⟩
    replace g := g.next d
    replace I := I.next d
    clear d q0 q1 q2 q3
    obtain ⟨q0, q1, q2, q3⟩ := four g.a.h
    go_wp2_with fail
    refine (mL _ _ _ _ g.a.fa).mono ?_
    rintro e w34 ⟨rfl, d⟩
    replace g := g.next d
    replace I := I.next d
    clear d q0 q1 q2 q3
    obtain ⟨q0, q1, q2, q3⟩ := four g.a.h
    go_wp2_with fail
    refine (nilEq _).mono ?_
    rintro e w35 ⟨rfl, d⟩
    replace g := g.next d
    replace I := I.next d
    clear d q0 q1 q2 q3
    obtain ⟨q0, q1, q2, q3⟩ := four g.a.h
    go_wp2_with fail
    refine (nilEq _).mono ?_
    rintro e w36 ⟨rfl, d⟩
    replace g := g.next d
    replace I := I.next d
    clear d q0 q1 q2 q3
    obtain ⟨q0, q1, q2, q3⟩ := four g.a.h
    go_wp2_with fail
    refine (nilEq _).mono ?_
    rintro e w37 ⟨rfl, d⟩
    replace g := g.next d
    replace I := I.next d
    clear d q0 q1 q2 q3
    obtain ⟨q0, q1, q2, q3⟩ := four g.a.h
    go_wp2_with fail
    refine (nilEq _).mono ?_
    rintro e w38 ⟨rfl, d⟩
    replace g := g.next d
    replace I := I.next d
    clear d q0 q1 q2 q3
    obtain ⟨cc, Wc, hconv, dc, zc, hby, hcc⟩ := conv_bytes w38 word
    replace g := g.next dc
    clear dc zc hcc
    have HB := Lib.hid hby
    clear hby
    go_wp2_with fail
    clear hconv
    go_loopw [127] (fun i wr => ∃ k : Nat, k ≤ word.length ∧ i = .int .i64 k ∧ Below Wc.heap.size Wc wr) (fun i _ => word.length - (intOf i).toNat)
    case atStart => exact ⟨0, Nat.zero_le _, rfl, Below.refl _ _⟩
    case round =>
      obtain ⟨k, hk, rfl, hb⟩ := hrel
      replace g := g.next hb
      by_cases hlt : k < word.length
      · have hcu := (hb.cell (p := ⟨w38.heap.size, k, none⟩) (World.block_lt_of_cell? _ _ (HB.out k hlt))).trans (HB.out k hlt)
        have hu256 : word[k].toNat < 256 := word[k].toNat_lt
        have mS2 := fun vs vf ve vl W h hl => mS vs vf ve vl _ hu256 W h hl
        have hi2 : (k : Int) < word.length := by omega
        generalize word[k].toNat = bt at *
        by_cases h6 : ((k : Int) == 6) = true
        · clear mS mS2
          go_wp2_with fail
          refine wp_region_gauto 12 (by kernel_rfl) (fun w' => Below wr.heap.size wr w') (fun a b => Below a.heap.size a b)
            (fun i v w' => match i with
              | 0 => v = .agg #[.int .i64 a'.states, .slice A1 a'.start.length c1, .slice A2 a'.final.length c2, .slice A3 a'.edges.length c3]
              | 1 => v = .agg #[.int .i64 a.states, .slice As a.start.length cs, .slice Af a.final.length cf, .slice Ae a.edges.length ce]
              | 2 => ∃ B1 e1 B2 e2 B3 e3, v = .agg #[.int .i64 a'.states, .slice B1 a'.start.length e1, .slice B2 a'.final.length e2, .slice B3 a'.edges.length e3] ∧ FaAt w' w'.heap.size a' (.slice B1 a'.start.length e1) (.slice B2 a'.final.length e2) (.slice B3 a'.edges.length e3)
              | 3 => v = .bool true
              | 4 => v = .bool true
              | 5 => v = .slice A8 l8.length c8
              | 6 => v = .slice Ay ny cy
              | 7 => v = .slice A8 l8.length c8
              | 8 => v = .int .i64 (l8.length : Nat)
              | 9 => v = .slice Ay l8.length cy
              | 10 => v = .bool true
              | 11 => v = .bool true
              | _ => True)
            ?fina ?hfina (by decide) (by kernel_rfl) (by kernel_rfl) (by kernel_rfl) ?hka (Below.refl _ _).drew ?hstepa ?htaila
          case hfina =>
            intro f
            simp only [List.take_succ_cons, List.take_zero, putF, List.setIfInBounds_toArray, List.set_cons_zero, List.set_cons_succ]
            exact rfl
          case hka =>
            intro i v x y hxy h
            match i with
            | 0 | 1 | 3 | 4 | 5 | 6 | 7 | 8 | 9 | 10 | 11 => exact h
            | 2 => obtain ⟨B1, e1, B2, e2, B3, e3, h1, h2⟩ := h; exact ⟨B1, e1, B2, e2, B3, e3, h1, h2.below hxy hxy.size⟩
            | n + 12 => trivial
          case hstepa =>
            intro f w' hR
            have g := g.next hR
            obtain ⟨q0, q1, q2, q3⟩ := four g.a.h
            obtain ⟨p0, p1, p2, p3⟩ := four g.x
            obtain ⟨_, hl8l, hy8⟩ := HY.out
            rw [← hl8l] at hy8
            have hyl : l8.length ≤ cy := by omega
            clear hl8l
            refine ⟨?_, ?_, ?_, ?_, ?_, ?_, ?_, ?_, ?_, ?_, ?_, ?_, trivial⟩
            all_goals
              intro hA a1 K hK
              simp only [AfterAll, Region.binds, forall_const, and_true] at hA
              try rw [if_pos (show Region.wanted _ _ = true by simp [Region.wanted, yielded, hA])]
            · go_simp
              exact hK _ _ hR (Below.refl _ _) rfl
            · go_simp
              exact hK _ _ hR (Below.refl _ _) rfl
            · go_simp
              refine (HFEW.out w' g.d).mono ?_
              rintro e w3 ⟨⟨vs, vf, ve, rfl, o1, o2, o3⟩, d3⟩
              have k1 := o1.sl encI_len
              have k2 := o2.sl encI_len
              have k3 := o3.sl encE_len
              obtain ⟨B1, e1, rfl, _⟩ := o1.form
              obtain ⟨B2, e2, rfl, _⟩ := o2.form
              obtain ⟨B3, e3, rfl, _⟩ := o3.form
              exact hK _ _ (below_next hR d3) d3 ⟨_, _, _, _, _, _, rfl, k1, k2, k3⟩
            · obtain ⟨x0, ⟨B1, e1, B2, e2, B3, e3, x2, hf⟩, _⟩ := hA
              have hsame := rsame_ok a' a' _ _ _ _ _ _ w' g.a.fa hf hsm.short hsm.short
              rw [decide_eq_true rfl] at hsame
              unfold vA at hsame
              go_simp
              refine hsame.mono ?_
              rintro e w3 ⟨rfl, d3⟩
              exact hK _ _ (below_next hR d3) d3 rfl
            · go_simp
              exact hK _ _ hR (Below.refl _ _) rfl
            · go_simp
              exact hK _ _ hR (Below.refl _ _) rfl
            · go_simp
              exact hK _ _ hR (Below.refl _ _) rfl
            · go_simp
              exact hK _ _ hR (Below.refl _ _) rfl
            · go_simp
              exact hK _ _ hR (Below.refl _ _) rfl
            · go_simp
              exact hK _ _ hR (Below.refl _ _) rfl
            · go_simp
              refine (same_eq2 _ _ l8 w' g.l (hy8.below g.d g.d.size) hl8m).mono ?_
              rintro e w3 ⟨rfl, d3⟩
              exact hK _ _ (below_next hR d3) d3 rfl
            · go_simp
              exact hK _ _ hR (Below.refl _ _) rfl
          case htaila =>
            intro f w' hR hP
            have x11 : f 11 = _ := hP 11 (by decide)
            rw [x11]
            clear hP
            have g := g.next hR
            go_wp2_with fail
            go_ret
            exact ⟨rfl, g.d⟩
        · have h6f : ((k : Int) == 6) = false := by simpa using h6
          clear h6 mS
          obtain ⟨q0, q1, q2, q3⟩ := four g.a.h
          have hbi : (bt : Int) < 256 := by omega
          go_wp2_with fail
          refine (mS2 _ _ _ _ wr g.a.fa g.l).mono ?_
          rintro e wb ⟨rfl, db⟩
          have hbb := below_next hb db
          clear q0 q1 q2 q3 mS2 db
          go_wp2_with fail
          refine (nilEq wb).mono ?_
          rintro e wc ⟨rfl, dc⟩
          go_wp2_with fail
          go_roundw
          case rel => exact ⟨k + 1, by omega, by go_num, below_next hbb dc⟩
          case measure => simp [intOf]; omega
      · clear mS
        go_wp2_with fail
        refine wp_region_gauto 12 (by kernel_rfl) (fun w' => Below wr.heap.size wr w') (fun a b => Below a.heap.size a b)
          (fun i v w' => match i with
            | 0 => v = .agg #[.int .i64 a'.states, .slice A1 a'.start.length c1, .slice A2 a'.final.length c2, .slice A3 a'.edges.length c3]
            | 1 => v = .agg #[.int .i64 a.states, .slice As a.start.length cs, .slice Af a.final.length cf, .slice Ae a.edges.length ce]
            | 2 => ∃ B1 e1 B2 e2 B3 e3, v = .agg #[.int .i64 a'.states, .slice B1 a'.start.length e1, .slice B2 a'.final.length e2, .slice B3 a'.edges.length e3] ∧ FaAt w' w'.heap.size a' (.slice B1 a'.start.length e1) (.slice B2 a'.final.length e2) (.slice B3 a'.edges.length e3)
            | 3 => v = .bool true
            | 4 => v = .bool true
            | 5 => v = .slice A8 l8.length c8
            | 6 => v = .slice Ay ny cy
            | 7 => v = .slice A8 l8.length c8
            | 8 => v = .int .i64 (l8.length : Nat)
            | 9 => v = .slice Ay l8.length cy
            | 10 => v = .bool true
            | 11 => v = .bool true
            | _ => True)
          ?finb ?hfinb (by decide) (by kernel_rfl) (by kernel_rfl) (by kernel_rfl) ?hkb (Below.refl _ _).drew ?hstepb ?htailb
        case hfinb =>
          intro f
          simp only [List.take_succ_cons, List.take_zero, putF, List.setIfInBounds_toArray, List.set_cons_zero, List.set_cons_succ]
          exact rfl
        case hkb =>
          intro i v x y hxy h
          match i with
          | 0 | 1 | 3 | 4 | 5 | 6 | 7 | 8 | 9 | 10 | 11 => exact h
          | 2 => obtain ⟨B1, e1, B2, e2, B3, e3, h1, h2⟩ := h; exact ⟨B1, e1, B2, e2, B3, e3, h1, h2.below hxy hxy.size⟩
          | n + 12 => trivial
        case hstepb =>
          intro f w' hR
          have g := g.next hR
          obtain ⟨q0, q1, q2, q3⟩ := four g.a.h
          obtain ⟨p0, p1, p2, p3⟩ := four g.x
          obtain ⟨_, hl8l, hy8⟩ := HY.out
          rw [← hl8l] at hy8
          have hyl : l8.length ≤ cy := by omega
          clear hl8l
          refine ⟨?_, ?_, ?_, ?_, ?_, ?_, ?_, ?_, ?_, ?_, ?_, ?_, trivial⟩
          all_goals
            intro hA a1 K hK
            simp only [AfterAll, Region.binds, forall_const, and_true] at hA
            try rw [if_pos (show Region.wanted _ _ = true by simp [Region.wanted, yielded, hA])]
          · go_simp
            exact hK _ _ hR (Below.refl _ _) rfl
          · go_simp
            exact hK _ _ hR (Below.refl _ _) rfl
          · go_simp
            refine (HFEW.out w' g.d).mono ?_
            rintro e w3 ⟨⟨vs, vf, ve, rfl, o1, o2, o3⟩, d3⟩
            have k1 := o1.sl encI_len
            have k2 := o2.sl encI_len
            have k3 := o3.sl encE_len
            obtain ⟨B1, e1, rfl, _⟩ := o1.form
            obtain ⟨B2, e2, rfl, _⟩ := o2.form
            obtain ⟨B3, e3, rfl, _⟩ := o3.form
            exact hK _ _ (below_next hR d3) d3 ⟨_, _, _, _, _, _, rfl, k1, k2, k3⟩
          · obtain ⟨x0, ⟨B1, e1, B2, e2, B3, e3, x2, hf⟩, _⟩ := hA
            have hsame := rsame_ok a' a' _ _ _ _ _ _ w' g.a.fa hf hsm.short hsm.short
            rw [decide_eq_true rfl] at hsame
            unfold vA at hsame
            go_simp
            refine hsame.mono ?_
            rintro e w3 ⟨rfl, d3⟩
            exact hK _ _ (below_next hR d3) d3 rfl
          · go_simp
            exact hK _ _ hR (Below.refl _ _) rfl
          · go_simp
            exact hK _ _ hR (Below.refl _ _) rfl
          · go_simp
            exact hK _ _ hR (Below.refl _ _) rfl
          · go_simp
            exact hK _ _ hR (Below.refl _ _) rfl
          · go_simp
            exact hK _ _ hR (Below.refl _ _) rfl
          · go_simp
            exact hK _ _ hR (Below.refl _ _) rfl
          · go_simp
            refine (same_eq2 _ _ l8 w' g.l (hy8.below g.d g.d.size) hl8m).mono ?_
            rintro e w3 ⟨rfl, d3⟩
            exact hK _ _ (below_next hR d3) d3 rfl
          · go_simp
            exact hK _ _ hR (Below.refl _ _) rfl
        case htailb =>
          intro f w' hR hP
          have x11 : f 11 = _ := hP 11 (by decide)
          rw [x11]
          clear hP
          have g := g.next hR
          go_wp2_with fail
          go_ret
          exact ⟨rfl, g.d⟩
end Go.Proofs.YtakldmbbmefnbaaGreat
/- How arguments that came in read: an automaton, a slice of numbers, of strings. -/
namespace Go.Proofs.YtakldmbbmefnbaaGreat
open Go.RowKit Go.ChangeShapes Go.WideShapes Go.ChangeAt Go.Joins Go.Deep
set_option maxRecDepth 100000

def encSt (l : List UInt8) : List Value := [encStr l]
abbrev Strs (w : World) (B : Nat) (v : Value) (xs : List (List UInt8)) : Prop := Sl encSt 1 w B v xs

theorem sl_open {α : Type} [Inhabited α] {enc : α → List Value} {size : Nat} (hsz : 0 < size) (henc : ∀ x, (enc x).length = size) {w : World} {base : Nat} {a : Addr} {len cap : Nat} (D : α → Prop)
    (h : ∀ i, i < len → ∃ x : α, D x ∧ w.cells? base (a.add (i * size)) size = some (enc x)) : ∃ xs : List α, xs.length = len ∧ (∀ x ∈ xs, D x) ∧ Sl enc size w w.heap.size (.slice (some a) len cap) xs := by
  obtain ⟨f, hf⟩ := choose_lt h
  refine ⟨(List.range len).map f, by simp, fun x hx => ?_, some a, cap, by simp, fun h0 => ?_⟩
  · obtain ⟨i, hi, rfl⟩ := List.mem_map.1 hx
    exact (hf i (List.mem_range.1 hi)).1
  · simp at h0
    have key : ∀ i, i < len → ∀ j, j < size → w.cell? ((a.add (i * size)).add j) = (enc (f i))[j]? := fun i hi j hj => (World.cells?_some (hf i hi).2).2.2 j hj
    have k0 := key 0 h0 0 hsz
    rw [List.getElem?_eq_getElem (by rw [henc]; exact hsz)] at k0
    have hsp := World.cell?_spot k0
    have hlt := World.block_lt_of_cell? _ _ k0
    obtain ⟨b, o, sp⟩ := a
    have hsp : sp = none := by simpa [Addr.add] using hsp
    subst hsp
    refine ⟨b, o, rfl, by simpa [Addr.add] using hlt, fun i x hx j u hu => ?_⟩
    have hi : i < len := by
      have := (List.getElem?_eq_some_iff.1 hx).1
      simpa using this
    have hxf : f i = x := by
      rw [List.getElem?_map, List.getElem?_range hi] at hx
      simpa using hx
    have hj : j < size := by
      have := (List.getElem?_eq_some_iff.1 hu).1
      rwa [henc] at this
    have := key i hi j hj
    rw [hxf, hu] at this
    have ha : ((⟨b, o, none⟩ : Addr).add (i * size)).add j = ⟨b, o + i * size + j, none⟩ := by rw [add_plain, add_plain]
    rwa [ha] at this

section
variable {H : Type} {enc : TypeId × Value → H} {w : World} {fuel : Nat} {cs : List Value} {x : DataW H × List MemPlace}

theorem cells_edge : Tryz.prog.cellsOf 73 = 7 := by kernel_rfl
theorem cells_int : Tryz.prog.cellsOf 3 = 1 := by kernel_rfl
theorem cells_u64 : Tryz.prog.cellsOf 67 = 1 := by kernel_rfl
theorem cells_set : Tryz.prog.cellsOf 69 = 4 := by kernel_rfl
theorem cells_bool : Tryz.prog.cellsOf 4 = 1 := by kernel_rfl
theorem cells_fa : Tryz.prog.cellsOf 25 = 4 := by kernel_rfl

theorem open_edge (h : DataW.trod enc Tryz.prog w 0 (fun _ => true) true fuel 73 cs = some x) : ∃ e : E, cs = encE e := by
  obtain ⟨y0, y1, y2, y3, n, _, hl, h0, h1, h2, h3⟩ := trod_struct4 Tryz.underlying73 h
  rw [cells_edge] at hl
  match cs, hl with
  | [c0, c1, c2, c3, c4, c5, c6], _ =>
    simp only [cells_int, cells_bool, cells_set, List.drop_zero, List.drop_succ_cons, List.take_succ_cons, List.take_zero] at h0 h1 h2 h3
    obtain ⟨n0, e0, _⟩ := DataW.trod_int Tryz.underlying3 h0
    obtain ⟨n1, e1, _⟩ := DataW.trod_int Tryz.underlying3 h1
    obtain ⟨b2, e2, _⟩ := DataW.trod_bool Tryz.underlying4 h2
    obtain ⟨xs, m, _, _, hl3, hlen, hx⟩ := DataW.trod_array Tryz.underlying69 h3
    have word : ∀ (i : Nat) (c : Value), i < 4 → [c3, c4, c5, c6][i]? = some c → ∃ v : BitVec 64, c = .int .u64 (v.toNat : Int) := by
      intro i c hi hc
      have hxi := hx i hi
      have hlt : i < xs.length := by omega
      rw [cells_u64, Nat.mul_one, List.getElem?_eq_getElem hlt] at hxi
      have ht : (List.drop i [c3, c4, c5, c6]).take 1 = [c] := by
        match i, hi, hc with
        | 0, _, hc => simp at hc; simp [hc]
        | 1, _, hc => simp at hc; simp [hc]
        | 2, _, hc => simp at hc; simp [hc]
        | 3, _, hc => simp at hc; simp [hc]
      rw [ht] at hxi
      obtain ⟨z, hz, _, hwf⟩ := DataW.trod_int Tryz.underlying67 hxi
      have hb := bounds_u64 hwf
      simp at hz
      refine ⟨BitVec.ofNat 64 z.toNat, ?_⟩
      rw [hz]
      congr 1
      rw [BitVec.toNat_ofNat]
      omega
    obtain ⟨w0, rfl⟩ := word 0 c3 (by decide) rfl
    obtain ⟨w1, rfl⟩ := word 1 c4 (by decide) rfl
    obtain ⟨w2, rfl⟩ := word 2 c5 (by decide) rfl
    obtain ⟨w3, rfl⟩ := word 3 c6 (by decide) rfl
    simp at e0 e1 e2
    subst e0; subst e1; subst e2
    exact ⟨⟨n0, n1, b2, ⟨w0, w1, w2, w3⟩⟩, rfl⟩

/-- A slice of numbers that came in. -/
theorem open_ints_sl (h : DataW.trod enc Tryz.prog w 0 (fun _ => true) true fuel 22 cs = some x) : ∃ A cap, ∃ xs : List Int, cs = [.slice A xs.length cap] ∧ xs.length ≤ cap ∧ cap ≤ maxLen ∧ Ints w w.heap.size (.slice A xs.length cap) xs := by
  rcases open_slice1 Tryz.underlying22 cells_int h with ⟨rfl, _⟩ | ⟨a, len, cap, m, n, V, D, Pl, rfl, _, hl, hm, hmm, _, hx⟩
  · exact ⟨none, 0, [], rfl, by simp, by simp, Sl.nil none 0⟩
  · simp only [if_true] at hmm
    subst hmm
    obtain ⟨xs, hxl, _, hs⟩ := sl_open (enc := encI) (size := 1) (by decide) encI_len (w := w) (base := 0) (a := a) (len := len) (cap := m) (fun _ => True) (fun i hi => by
      obtain ⟨hc, ht⟩ := hx i (by omega)
      obtain ⟨z, hz, _⟩ := DataW.trod_int Tryz.underlying3 ht
      simp at hz
      rw [hz] at hc
      refine ⟨z, trivial, ?_⟩
      rw [Nat.mul_one]
      exact cells?_one (Nat.zero_le _) hc)
    subst hxl
    exact ⟨some a, m, xs, rfl, hl, hm, hs⟩

/-- A slice of edges that came in. -/
theorem open_edges_sl (h : DataW.trod enc Tryz.prog w 0 (fun _ => true) true fuel 23 cs = some x) : ∃ A cap, ∃ xs : List E, cs = [.slice A xs.length cap] ∧ xs.length ≤ cap ∧ cap ≤ maxLen ∧ Edges w w.heap.size (.slice A xs.length cap) xs := by
  rcases open_slice Tryz.underlying23 h with ⟨rfl, _⟩ | ⟨a, len, cap, m, n, D, Pl, rfl, _, hl, hm, hmm, _, hx⟩
  · exact ⟨none, 0, [], rfl, by simp, by simp, Sl.nil none 0⟩
  · simp only [if_true] at hmm
    subst hmm
    haveI : Inhabited E := ⟨⟨0, 0, false, ⟨0, 0, 0, 0⟩⟩⟩
    obtain ⟨xs, hxl, _, hs⟩ := sl_open (enc := encE) (size := 7) (by decide) encE_len (w := w) (base := 0) (a := a) (len := len) (cap := m) (fun _ => True) (fun i hi => by
      obtain ⟨cs', hc, ht⟩ := hx i (by omega)
      rw [cells_edge] at hc
      obtain ⟨e, rfl⟩ := open_edge ht
      exact ⟨e, trivial, hc⟩)
    subst hxl
    exact ⟨some a, m, xs, rfl, hl, hm, hs⟩

theorem cells_str : Tryz.prog.cellsOf 9 = 1 := by kernel_rfl
/-- A slice of strings that came in. -/
theorem open_strs_sl (h : DataW.trod enc Tryz.prog w 0 (fun _ => true) true fuel 44 cs = some x) : ∃ A cap, ∃ xs : List (List UInt8), cs = [.slice A xs.length cap] ∧ xs.length ≤ cap ∧ cap ≤ maxLen ∧ (∀ x ∈ xs, x.length ≤ maxLen) ∧ Strs w w.heap.size (.slice A xs.length cap) xs := by
  rcases open_slice1 Tryz.underlying44 cells_str h with ⟨rfl, _⟩ | ⟨a, len, cap, m, n, V, D, Pl, rfl, _, hl, hm, hmm, _, hx⟩
  · exact ⟨none, 0, [], rfl, by simp, by simp, by simp, Sl.nil none 0⟩
  · simp only [if_true] at hmm
    subst hmm
    obtain ⟨xs, hxl, hd, hs⟩ := sl_open (enc := encSt) (size := 1) (by decide) (fun _ => rfl) (w := w) (base := 0) (a := a) (len := len) (cap := m) (fun l => l.length ≤ maxLen) (fun i hi => by
      obtain ⟨hc, ht⟩ := hx i (by omega)
      obtain ⟨s, hz, _, hsz⟩ := DataW.trod_string Tryz.underlying9 ht
      simp at hz
      rw [hz] at hc
      refine ⟨s.data.toList, by simpa using hsz, ?_⟩
      rw [Nat.mul_one]
      exact cells?_one (Nat.zero_le _) hc)
    subst hxl
    exact ⟨some a, m, xs, rfl, hl, hm, hd, hs⟩

/-- An automaton that came in. -/
theorem open_fa {r : Reach} {b0 : Nat} {v : Value} {d : DataW H} {p : List MemPlace} (hv : Value.okWide Tryz.prog w r b0 25 v) (h : DataW.Trod enc Tryz.prog w 0 (fun _ => true) true 25 v d p) :
    ∃ (a : A) (As Af Ae : Option Addr) (cs cf ce : Nat), v = vA a (.slice As a.start.length cs) (.slice Af a.final.length cf) (.slice Ae a.edges.length ce) ∧ FaAt w w.heap.size a (.slice As a.start.length cs) (.slice Af a.final.length cf) (.slice Ae a.edges.length ce) ∧
      a.start.length ≤ cs ∧ a.final.length ≤ cf ∧ a.edges.length ≤ ce ∧ cs ≤ maxLen ∧ cf ≤ maxLen ∧ ce ≤ maxLen ∧ (Lit.int .i64 a.states).wf = true := by
  obtain ⟨v0, v1, v2, v3, y0, y1, y2, y3, n, rfl, _, _, h0, h1, h2, h3⟩ := open_agg4 Tryz.underlying25 (by kernel_rfl) cells_fa hv h
  obtain ⟨st, e0, _, hwf⟩ := DataW.trod_int Tryz.underlying3 h0
  obtain ⟨As, cs, xs, e1, l1, m1, s1⟩ := open_ints_sl h1
  obtain ⟨Af, cf, ys, e2, l2, m2, s2⟩ := open_ints_sl h2
  obtain ⟨Ae, ce, zs, e3, l3, m3, s3⟩ := open_edges_sl h3
  simp at e0 e1 e2 e3
  subst e0; subst e1; subst e2; subst e3
  exact ⟨⟨st, xs, ys, zs⟩, As, Af, Ae, cs, cf, ce, rfl, ⟨s1, s2, s3⟩, l1, l2, l3, m1, m2, m3, hwf⟩
end
end Go.Proofs.YtakldmbbmefnbaaGreat
/- What the rows' proofs share: two closed facts on the program. -/
namespace Go.Proofs.YtakldmbbmefnbaaGreat
open Go.ChangeShapes Go.WideShapes Go.ChangeAt Go.RowKit
theorem own_knob : ownKnob Tryz.prog.godebug = none := by kernel_rfl
theorem laid_out : laidOutB Tryz.prog = true := by kernel_rfl
end Go.Proofs.YtakldmbbmefnbaaGreat
