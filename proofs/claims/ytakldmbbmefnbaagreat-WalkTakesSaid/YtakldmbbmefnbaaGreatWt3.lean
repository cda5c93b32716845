/- What the statement leans on, part 3: texts joined into one. -/
import Derived.Test.YtakldmbbmefnbaaGreatWt2
import Derived.Handy
import Derived.Test.YtakldmbbmefnbaaGreatProg
import Derived.ProofKit
import Derived.OpenShut
import Derived.Lib.SmallJoins
import Derived.Deep.Slices
import Derived.Sort.EncStr
import Derived.ShutString
import Derived.ChangeOld
import Derived.Below
/- the reference's words: Step. -/
namespace Go.Proofs.YtakldmbbmefnbaaGreat
open Go.RowKit Go.Sort Go.Proofs
set_option maxRecDepth 100000
set_option maxHeartbeats 1000000

/-- Where the first edges lead by a byte. -/
def A.dests (a : A) (from_ : List Int) (b j : Nat) : List Int := ((a.edges.take j).filter (leads from_ b)).map (fun e => e.dst)
theorem dests_all (a : A) (from_ : List Int) (b : Nat) : a.dests from_ b a.edges.length = (a.edges.filter (leads from_ b)).map (fun e => e.dst) := by unfold A.dests; rw [List.take_length]
theorem dests_yes {a : A} {from_ : List Int} {b j : Nat} (h : j < a.edges.length) (hp : leads from_ b a.edges[j] = true) : a.dests from_ b (j + 1) = a.dests from_ b j ++ [a.edges[j].dst] := by
  unfold A.dests
  rw [List.take_succ_eq_append_getElem h, List.filter_append, List.map_append, List.filter_cons_of_pos hp]
  rfl
theorem dests_no {a : A} {from_ : List Int} {b j : Nat} (h : j < a.edges.length) (hp : leads from_ b a.edges[j] = false) : a.dests from_ b (j + 1) = a.dests from_ b j := by
  unfold A.dests
  rw [List.take_succ_eq_append_getElem h, List.filter_append, List.map_append, List.filter_cons_of_neg (by rw [hp]; decide)]
  simp
theorem leads_mark {n : Nat} {l : List Int} {b x : Nat} {y : Int} {f : Bool} {s : BSet} (hx : x < n) : leads l b ⟨x, y, f, s⟩ = (!f && (marks n l).getD x false && s.has b) := by
  unfold leads
  have h1 : l.any (fun z => (x : Int) == z) = (marks n l).getD x false := by
    rw [List.getD, marks_get l hx, Bool.eq_iff_iff]
    simp
  rw [h1]
  cases f <;> cases s.has b <;> simp

theorem rstep_ok (a : A) (vs vf ve vl : Value) (l : List Int) (by_ : Nat) (hby : by_ < 256) (w : World) (hfa : FaAt w w.heap.size a vs vf ve) (ha : Fit a) (hl : Ints w w.heap.size vl l) (hin : Inb a l) (hll : l.length ≤ 1000000) :
    Calls Tryz.prog 22 #[vA a vs vf ve, .int .i64 by_, vl] w (fun r w' => ∃ v', r = .returned v' ∧ Own encI 1 3 w' w.heap.size v' (a.step l by_) ∧ Below w.heap.size w w') := by
  obtain ⟨i2, hi2, hz2, hs2, hb2⟩ := info_parts info_bool
  obtain ⟨n, hn⟩ : ∃ n : Nat, a.states = n := ⟨a.states.toNat, by have := ha.ok; simp [A.ok] at this; omega⟩
  have hnn : n ≤ 1000 := by have := ha.n; omega
  have heb : ∀ e ∈ a.edges, (0 ≤ e.src ∧ e.src < n) ∧ 0 ≤ e.dst ∧ e.dst < n := fun e he => by have := edge_in ha he; omega
  have hcin : ∀ s ∈ a.clo l, 0 ≤ s ∧ s < n := fun s hs => by have := inb_clo ha l s hs; omega
  have hcl : (a.clo l).length ≤ 1000000 := Nat.le_trans (A.clo_len ha l) (by decide)
  obtain ⟨As, cs, rfl, hs1⟩ := id hfa.s
  obtain ⟨Af, cf, rfl, hs2'⟩ := id hfa.f
  obtain ⟨Ae, ce, rfl, hre⟩ := id hfa.e
  obtain ⟨A0, c0, rfl, hr⟩ := id hl
  have hel := ha.e
  have hB1 : i2.bytes * n ≤ 281474976710656 := by rw [hb2]; omega
  have hN : n ≤ 4611686018427387904 := by omega
  obtain ⟨W1, hW1⟩ : ∃ W1, w.alloc (.cells #[.int .i64 (n : Nat), .slice As a.start.length cs, .slice Af a.final.length cf, .slice Ae a.edges.length ce] 25) = W1 := ⟨_, rfl⟩
  have d1 : Below w.heap.size w W1 := hW1 ▸ alloc1 w _
  have b1 : W1.heap[w.heap.size]? = some (.cells #[.int .i64 (n : Nat), .slice As a.start.length cs, .slice Af a.final.length cf, .slice Ae a.edges.length ce] 25 (0, 0)) := by rw [← hW1]; exact heap_alloc_new w _
  have hz1 := d1.size
  have hlt1 : w.heap.size < W1.heap.size := by rw [← hW1]; simp
  have kc := fun vl l W (d : Below W1.heap.size W1 W) (hl : Ints W W.heap.size vl l) (hin : Inb a l) (hll : l.length ≤ 1000000) => rclosure_ok a (.slice As a.start.length cs) (.slice Af a.final.length cf) (.slice Ae a.edges.length ce) vl l W ((hfa.below d1 hz1).below d d.size) ha hl hin hll
  have km := fun vl W (hl : Ints W W.heap.size vl (a.clo l)) => marked_ok a (.slice As a.start.length cs) (.slice Af a.final.length cf) (.slice Ae a.edges.length ce) vl (a.clo l) n W hn hnn hl hcin hcl ⟨_, _, _, rfl⟩ ⟨_, _, _, rfl⟩ ⟨_, _, _, rfl⟩
  obtain ⟨q1, q2, q3, q4⟩ : W1.cell? ⟨w.heap.size, 0, none⟩ = some (.int .i64 (n : Nat)) ∧ W1.cell? ⟨w.heap.size, 1, none⟩ = some (.slice As a.start.length cs) ∧ W1.cell? ⟨w.heap.size, 2, none⟩ = some (.slice Af a.final.length cf) ∧ W1.cell? ⟨w.heap.size, 3, none⟩ = some (.slice Ae a.edges.length ce) := ⟨cell_at b1 0, cell_at b1 1, cell_at b1 2, cell_at b1 3⟩
  have hl1 : Ints W1 W1.heap.size (.slice A0 l.length c0) l := hl.below d1 hz1
  unfold vA at kc km ⊢
  rw [hn] at kc km ⊢
  have HW := Lib.hid (And.intro kc km)
  have HF := Lib.hid (And.intro heb (And.intro hre (And.intro hn hin)))
  clear heb hre hn hfa hl hs1 hs2' hr hin b1 kc km
  go_enter Tryz.func22, Tryz.ntmps22
  go_wp2_with fail
  refine wp_region_phases 5 (by kernel_rfl) (fun w' => Below W1.heap.size W1 w') (fun a b => Below a.heap.size a b)
    (fun i v w' => match i with
      | 0 => v = .agg #[.int .i64 (n : Nat), .slice As a.start.length cs, .slice Af a.final.length cf, .slice Ae a.edges.length ce]
      | 1 => v = .agg #[.int .i64 (n : Nat), .slice As a.start.length cs, .slice Af a.final.length cf, .slice Ae a.edges.length ce]
      | 2 => v = .slice A0 l.length c0
      | 3 => ∃ A c, v = .slice A (a.clo l).length c ∧ Ints w' w'.heap.size (.slice A (a.clo l).length c) (a.clo l)
      | 4 => ∃ b, v = .slice (some ⟨b, 0, none⟩) n n ∧ W1.heap.size ≤ b ∧ BRow w' b (marks n (a.clo l))
      | _ => True)
    (fun f => { tmps := #[.agg #[.int .i64 (n : Nat), .slice As a.start.length cs, .slice Af a.final.length cf, .slice Ae a.edges.length ce], .int .i64 by_, .slice A0 l.length c0, .pointer (some ⟨w.heap.size, 0, none⟩), undef, undef, .slice none 0 0, undef, undef, undef, undef, f 0, f 1, f 2, f 3, f 4, undef, undef, undef, undef, undef, undef, undef, undef, undef, undef, undef, undef, undef, undef, undef, undef, undef, undef, undef, undef, undef, undef, undef, undef, undef, undef, undef, undef, undef, undef, undef, undef, undef, undef, undef], defers := [] })
    (by decide) (by kernel_rfl) (by kernel_rfl) (by kernel_rfl) (fun f => by kernel_rfl) (fun f => rfl) ?hk (Below.refl _ _).drew ?hstep ?htail
  case hk =>
    intro i v x y hxy h
    match i with
    | 0 | 1 | 2 => exact h
    | 3 => obtain ⟨A, c, h1, h2⟩ := h; exact ⟨A, c, h1, h2.below hxy hxy.size⟩
    | 4 => obtain ⟨b, h1, h2, h3⟩ := h; exact ⟨b, h1, h2, h3.below hxy⟩
    | n + 5 => trivial
  case hstep =>
    intro f w' hR
    have p1 := (hR.cell (p := ⟨w.heap.size, 0, none⟩) hlt1).trans q1
    have p2 := (hR.cell (p := ⟨w.heap.size, 1, none⟩) hlt1).trans q2
    have p3 := (hR.cell (p := ⟨w.heap.size, 2, none⟩) hlt1).trans q3
    have p4 := (hR.cell (p := ⟨w.heap.size, 3, none⟩) hlt1).trans q4
    refine ⟨?_, ?_, ?_, ?_, ?_, trivial⟩
    all_goals
      intro hA a1 K hK
      simp only [AfterAll, Region.binds, forall_const, and_true] at hA
    · go_simp
      exact hK _ _ hR (Below.refl _ _) rfl
    · go_simp
      exact hK _ _ hR (Below.refl _ _) rfl
    · go_simp
      exact hK _ _ hR (Below.refl _ _) rfl
    · go_simp
      refine (HW.out.1 _ l w' hR (hl1.below hR hR.size) HF.out.2.2.2 hll).mono ?_
      rintro e w2 ⟨v2, rfl, ho2, d2⟩
      have hs := ho2.sl encI_len
      obtain ⟨A2, c2, rfl, _⟩ := ho2.form
      exact hK _ _ (below_next hR d2) d2 ⟨A2, c2, rfl, hs⟩
    · obtain ⟨h0, ⟨A2, c2, h3, hs⟩, _⟩ := hA
      go_simp
      refine (HW.out.2 _ w' hs).mono ?_
      rintro e w2 ⟨⟨b, rfl, hb, hRb⟩, d2⟩
      exact hK _ _ (below_next hR d2) d2 ⟨b, rfl, Nat.le_trans hR.size hb, hRb⟩
  case htail =>
    intro f w' hR hP
    obtain ⟨b, h4, hb0, hBR⟩ := hP 4 (by decide)
    have hx0 : f 0 = _ := hP 0 (by decide)
    have hx1 : f 1 = _ := hP 1 (by decide)
    have hx2 : f 2 = _ := hP 2 (by decide)
    obtain ⟨A3, c3, h3, _⟩ := hP 3 (by decide)
    rw [hx0, hx1, hx2, h3, h4]
    have p1 := (hR.cell (p := ⟨w.heap.size, 0, none⟩) hlt1).trans q1
    have p4 := (hR.cell (p := ⟨w.heap.size, 3, none⟩) hlt1).trans q4
    obtain ⟨W5, hW5⟩ : ∃ W5, w'.alloc (.cells (madeCells #[Value.bool false] n) 4) = W5 := ⟨_, rfl⟩
    have d5 : Below w'.heap.size w' W5 := hW5 ▸ alloc1 w' _
    have r5 : BRow W5 w'.heap.size (marks n []) := by rw [← hW5]; exact BRow.new w' n
    have hBR5 := hBR.below d5
    have p5 := (d5.cell (p := ⟨w.heap.size, 3, none⟩) (Nat.lt_of_lt_of_le hlt1 hR.size)).trans p4
    have hR5 := below_next hR d5
    have hne : b ≠ w'.heap.size := by have := hBR.lt; omega
    have hbw := hR.size
    clear hP hx0 hx1 hx2 h3 h4 hR hBR
    go_wp2_with (at_make; refine wpList_make_z _ rfl _ _ 87 rfl _ i2 _ 1 Tryz.underlying87 hi2 hz2 hs2 n rfl rfl hB1 hN ?_)
    have hbt : W1.heap.size ≤ w'.heap.size := hbw
    generalize w'.heap.size = bt at *
    clear hW5 d5 p1 p4
    go_loopw [22] (fun i wr => ∃ j : Nat, j ≤ a.edges.length ∧ i = .int .i64 j ∧ BRow wr bt (marks n (a.dests (a.clo l) by_ j)) ∧ BRow wr b (marks n (a.clo l)) ∧ Below W1.heap.size W1 wr) (fun i _ => a.edges.length - (intOf i).toNat)
    case atStart => exact ⟨0, Nat.zero_le _, rfl, r5, hBR5, hR5⟩
    case round =>
      obtain ⟨j, hj, rfl, hR2, hR3, hb2⟩ := hrel
      clear r5 hBR5 hR5 p5
      by_cases hlt2 : j < a.edges.length
      · obtain ⟨heb, hre, _, _⟩ := HF.out
        obtain ⟨eb, eo, rfl, heb2, hec⟩ := hre (by omega)
        obtain ⟨z0, z1, z2, z3, z4, z5, z6⟩ := cell7 hec hlt2
        have hE := heb _ (List.getElem_mem hlt2)
        have dd := below_next d1 hb2
        have y0 := (dd.cell (p := ⟨eb, eo + j * 7, none⟩) heb2).trans z0
        have y1 := (dd.cell (p := ⟨eb, eo + j * 7 + 1, none⟩) heb2).trans z1
        have y2 := (dd.cell (p := ⟨eb, eo + j * 7 + 2, none⟩) heb2).trans z2
        have y3 := (dd.cell (p := ⟨eb, eo + j * 7 + 3, none⟩) heb2).trans z3
        have y4 := (dd.cell (p := ⟨eb, eo + j * 7 + 4, none⟩) heb2).trans z4
        have y5 := (dd.cell (p := ⟨eb, eo + j * 7 + 5, none⟩) heb2).trans z5
        have y6 := (dd.cell (p := ⟨eb, eo + j * 7 + 6, none⟩) heb2).trans z6
        have hyes := dests_yes (from_ := a.clo l) (b := by_) hlt2
        have hno := dests_no (from_ := a.clo l) (b := by_) hlt2
        clear z0 z1 z2 z3 z4 z5 z6 hec hre heb
        generalize a.edges[j] = ed at *
        obtain ⟨ex, ey, ef, eset⟩ := ed
        simp only at hE y0 y1 y2 y3 y4 y5 y6 hyes
        obtain ⟨x, rfl⟩ : ∃ x : Nat, ex = x := ⟨ex.toNat, by omega⟩
        obtain ⟨y, rfl⟩ : ∃ y : Nat, ey = y := ⟨ey.toNat, by omega⟩
        obtain ⟨⟨_, hxn⟩, _, hyn⟩ := hE
        have hxn' : x < n := by omega
        have hyn' : y < n := by omega
        rw [leads_mark hxn'] at hyes hno
        have cx := hR3.cell x (by rw [marks_len]; exact hxn')
        have cy := hR2.cell y (by rw [marks_len]; exact hyn')
        have fy := hR2.free y
        have hbl := hR2.lt
        have hbl3 := hR3.lt
        have hnx : (marks n (a.dests (a.clo l) by_ j)).set y true = marks n (a.dests (a.clo l) by_ j ++ [(y : Int)]) := marks_add _ hyn'
        have hRs := hR2.set y true
        have hR3s : BRow (wr.setCell ⟨bt, y, none⟩ (.bool true)) b (marks n (a.clo l)) := (Below.heap_setCell wr ⟨bt, y, none⟩ (.bool true) b hne).trans hR3
        have hbs := hb2.setCell (p := ⟨bt, y, none⟩) hbt (.bool true)
        rw [hnx] at hRs
        have HRS := Lib.hid (And.intro hRs (And.intro hR3s hbs))
        have hhas := fun W => rhasb_ok eset by_ hby W
        unfold vS at hhas
        have hba := hb2.trans ((alloc1 wr (.cells #[.int .i64 (x : Nat), .int .i64 (y : Nat), .bool ef, .int .u64 eset.w0.toNat, .int .u64 eset.w1.toNat, .int .u64 eset.w2.toNat, .int .u64 eset.w3.toNat] 73)).mono hb2.size)
        have hRa := hR2.below (alloc1 wr (.cells #[.int .i64 (x : Nat), .int .i64 (y : Nat), .bool ef, .int .u64 eset.w0.toNat, .int .u64 eset.w1.toNat, .int .u64 eset.w2.toNat, .int .u64 eset.w3.toNat] 73))
        have hRa3 := hR3.below (alloc1 wr (.cells #[.int .i64 (x : Nat), .int .i64 (y : Nat), .bool ef, .int .u64 eset.w0.toNat, .int .u64 eset.w1.toNat, .int .u64 eset.w2.toNat, .int .u64 eset.w3.toNat] 73))
        have HA := Lib.hid (And.intro hRa (And.intro hRa3 hba))
        have HY := Lib.hid (And.intro hyes hno)
        have hxi : (x : Int) < n := by omega
        have hyi : (y : Int) < n := by omega
        clear hR2 hR3 hRs hR3s hbs hnx hyes hno hRa hRa3 hba
        cases ef with
        | true =>
          go_wp2_with fail
          go_roundw
          case rel => exact ⟨j + 1, by omega, by go_num, by rw [HY.out.2 (by simp)]; exact HA.out.1, HA.out.2.1, HA.out.2.2⟩
          case measure => simp [intOf]; omega
        | false =>
          cases hmx : (marks n (a.clo l)).getD x false with
          | false =>
            rw [hmx] at cx
            have HM := Lib.hid hmx
            clear hmx
            go_wp2_with fail
            go_roundw
            case rel => exact ⟨j + 1, by omega, by go_num, by rw [HY.out.2 (by rw [HM.out]; simp)]; exact HA.out.1, HA.out.2.1, HA.out.2.2⟩
            case measure => simp [intOf]; omega
          | true =>
            rw [hmx] at cx
            have HM := Lib.hid hmx
            clear hmx
            clear cy fy HRS
            go_wp2_with fail
            cases hhb : eset.has by_ with
            | false =>
              rw [hhb] at hhas
              have HB := Lib.hid hhb
              clear hhb
              refine (hhas _).mono ?_
              rintro e w9 ⟨rfl, d9⟩
              clear hhas
              go_wp2_with fail
              go_roundw
              case rel => exact ⟨j + 1, by omega, by go_num, by rw [HY.out.2 (by rw [HB.out]; simp)]; exact HA.out.1.below d9, HA.out.2.1.below d9, below_next HA.out.2.2 d9⟩
              case measure => simp [intOf]; omega
            | true =>
              rw [hhb] at hhas
              have HB := Lib.hid hhb
              clear hhb
              refine (hhas _).mono ?_
              rintro e w9 ⟨rfl, d9⟩
              clear hhas
              have ce9 := (d9.cell (p := ⟨wr.heap.size, 1, none⟩) (by simp)).trans (cell_new wr #[.int .i64 (x : Nat), .int .i64 (y : Nat), .bool false, .int .u64 eset.w0.toNat, .int .u64 eset.w1.toNat, .int .u64 eset.w2.toNat, .int .u64 eset.w3.toNat] 73 1)
              simp only [List.getElem?_toArray, List.getElem?_cons_zero, List.getElem?_cons_succ] at ce9
              have hR9 := HA.out.1.below d9
              have hR93 := HA.out.2.1.below d9
              have hb9 := below_next HA.out.2.2 d9
              have cy := hR9.cell y (by rw [marks_len]; exact hyn')
              have fy := hR9.free y
              have hRs := hR9.set y true
              rw [marks_add _ hyn'] at hRs
              have hR3s : BRow (w9.setCell ⟨bt, y, none⟩ (.bool true)) b (marks n (a.clo l)) := (Below.heap_setCell w9 ⟨bt, y, none⟩ (.bool true) b hne).trans hR93
              have HRS := Lib.hid (And.intro hRs (And.intro hR3s (hb9.setCell (p := ⟨bt, y, none⟩) hbt (.bool true))))
              clear hR9 hR93 hb9 hRs hR3s d9
              generalize (marks n (a.dests (a.clo l) by_ j)).getD y false = old at *
              go_wp2_with fail
              go_roundw
              case rel => exact ⟨j + 1, by omega, by go_num, by rw [HY.out.1 (by rw [HM.out, HB.out]; rfl)]; exact HRS.out.1, HRS.out.2.1, HRS.out.2.2⟩
              case measure => simp [intOf]; omega
      · have hje : j = a.edges.length := by omega
        subst hje
        rw [dests_all] at hR2
        obtain ⟨heb, _, hn, _⟩ := HF.out
        have hdin : ∀ s : Int, s ∈ (a.edges.filter (leads (a.clo l) by_)).map (fun e => e.dst) → 0 ≤ s ∧ s < n := by
          intro s hs
          obtain ⟨e, he, rfl⟩ := List.mem_map.1 hs
          exact (heb e (List.mem_filter.1 he).1).2
        have hrs := rs_marks hdin
        have hrr := fun W (d : Below wr.heap.size wr W) => rrises_ok bt _ n W (marks_len n _) hnn (hR2.below d)
        have hlen : (rs (marks n ((a.edges.filter (leads (a.clo l) by_)).map (fun e => e.dst)))).length ≤ 1000000 := by
          have h1 := rsk_len (marks n ((a.edges.filter (leads (a.clo l) by_)).map (fun e => e.dst))) n
          have h2 : rs (marks n ((a.edges.filter (leads (a.clo l) by_)).map (fun e => e.dst))) = rsk (marks n ((a.edges.filter (leads (a.clo l) by_)).map (fun e => e.dst))) n := by unfold rs rsk; rw [marks_len]
          rw [h2]; omega
        have hinb : Inb a (rs (marks n ((a.edges.filter (leads (a.clo l) by_)).map (fun e => e.dst)))) := fun s hs => by
          have := hdin s ((hrs s).1 hs)
          omega
        have hst : a.clo (rs (marks n ((a.edges.filter (leads (a.clo l) by_)).map (fun e => e.dst)))) = a.step l by_ := by
          unfold A.step A.clo
          exact cl_same hrs
        generalize rs (marks n ((a.edges.filter (leads (a.clo l) by_)).map (fun e => e.dst))) = rl at *
        have r1 := (hb2.cell (p := ⟨w.heap.size, 0, none⟩) hlt1).trans q1
        have HS := Lib.hid hst
        have HRR := Lib.hid hrr
        clear hst hrr hrs hdin heb hn hR2 hR3
        go_wp2_with fail
        refine wp_region_auto 4 (by kernel_rfl) (fun w' => Below wr.heap.size wr w') (fun a b => Below a.heap.size a b)
          (fun i v w' => match i with
            | 0 => v = .agg #[.int .i64 (n : Nat), .slice As a.start.length cs, .slice Af a.final.length cf, .slice Ae a.edges.length ce]
            | 1 => v = .slice (some ⟨bt, 0, none⟩) n n
            | 2 => ∃ A c, v = .slice A rl.length c ∧ Ints w' w'.heap.size (.slice A rl.length c) rl
            | 3 => ∃ A c, v = .slice A (a.step l by_).length c ∧ Own encI 1 3 w' wr.heap.size (.slice A (a.step l by_).length c) (a.step l by_)
            | _ => True)
          ?fin2 ?hfin2 (by decide) (by kernel_rfl) (by kernel_rfl) (by kernel_rfl) ?hk2 (Below.refl _ _).drew ?hstep2 ?htail2
        case hfin2 =>
          intro f
          simp only [List.take_succ_cons, List.take_zero, putF, List.setIfInBounds_toArray, List.set_cons_zero, List.set_cons_succ]
          exact rfl
        case hk2 =>
          intro i v x y hxy h
          match i with
          | 0 | 1 => exact h
          | 2 => obtain ⟨A, c, h1, h2⟩ := h; exact ⟨A, c, h1, h2.below hxy hxy.size⟩
          | 3 => obtain ⟨A, c, h1, h2⟩ := h; exact ⟨A, c, h1, h2.below hxy⟩
          | n + 4 => trivial
        case hstep2 =>
          intro f w'' hR'
          have hdw := below_next hb2 hR'
          have p1 := (hdw.cell (p := ⟨w.heap.size, 0, none⟩) hlt1).trans q1
          have p2 := (hdw.cell (p := ⟨w.heap.size, 1, none⟩) hlt1).trans q2
          have p3 := (hdw.cell (p := ⟨w.heap.size, 2, none⟩) hlt1).trans q3
          have p4 := (hdw.cell (p := ⟨w.heap.size, 3, none⟩) hlt1).trans q4
          refine ⟨?_, ?_, ?_, ?_, trivial⟩
          all_goals
            intro hA a1 K hK
            simp only [AfterAll, Region.binds, forall_const, and_true] at hA
          · go_simp
            exact hK _ _ hR' (Below.refl _ _) rfl
          · go_simp
            exact hK _ _ hR' (Below.refl _ _) rfl
          · go_simp
            refine (HRR.out w'' hR').mono ?_
            rintro e w2 ⟨v2, rfl, ho2, d2⟩
            have hs := ho2.sl encI_len
            obtain ⟨A2, c2, rfl, _⟩ := ho2.form
            exact hK _ _ (below_next hR' d2) d2 ⟨A2, c2, rfl, hs⟩
          · obtain ⟨h0, ⟨A2, c2, h2, hs⟩, _⟩ := hA
            go_simp
            refine (HW.out.1 _ rl w'' hdw hs hinb hlen).mono ?_
            rintro e w3 ⟨v3, rfl, ho3, d3⟩
            rw [HS.out] at ho3
            obtain ⟨A4, c4, rfl, _⟩ := ho3.form
            exact hK _ _ (below_next hR' d3) d3 ⟨A4, c4, rfl, ho3.lower hR'.size⟩
        case htail2 =>
          intro f w'' hR' hP
          obtain ⟨A3, c3, h3, o3⟩ := hP 3 (by decide)
          rw [h3]
          clear hP
          go_wp2_with fail
          go_ret
          exact ⟨_, rfl, o3.lower (Nat.le_trans hz1 hb2.size), below_next (below_next d1 hb2) hR'⟩
end Go.Proofs.YtakldmbbmefnbaaGreat
/- the reference's words: Right. -/
namespace Go.Proofs.YtakldmbbmefnbaaGreat
open Go.RowKit Go.Sort Go.Proofs
set_option maxRecDepth 100000
set_option maxHeartbeats 16000000

theorem mayE_set (st : Int) (e : E) : mayE st e = (inB st e.src && inB st e.dst && (e.free == decide (e.set = ⟨0#64, 0#64, 0#64, 0#64⟩))) := by
  have h : decide (e.set.count = 0) = decide (e.set = ⟨0#64, 0#64, 0#64, 0#64⟩) := by
    rw [Bool.eq_iff_iff, decide_eq_true_iff, decide_eq_true_iff]
    exact count_zero e.set
  unfold mayE
  rw [h]

theorem rright_ok (a : A) (vs vf ve : Value) (w : World) (hfa : FaAt w w.heap.size a vs vf ve) (ha : Short a) :
    Calls Tryz.prog 12 #[vA a vs vf ve] w (fun r w' => r = .returned (.bool a.ok) ∧ Below w.heap.size w w') := by
  obtain ⟨As, cs, rfl, hs1⟩ := id hfa.s
  obtain ⟨Af, cf, rfl, hs2⟩ := id hfa.f
  obtain ⟨Ae, ce, rfl, hs3⟩ := id hfa.e
  have hok : a.ok = (decide (0 ≤ a.states) && a.start.all (inB a.states) && a.final.all (inB a.states) && a.edges.all (mayE a.states)) := rfl
  obtain ⟨W1, hW1⟩ : ∃ W1, w.alloc (.cells #[.int .i64 a.states, .slice As a.start.length cs, .slice Af a.final.length cf, .slice Ae a.edges.length ce] 25) = W1 := ⟨_, rfl⟩
  have d1 : Below w.heap.size w W1 := hW1 ▸ alloc1 w _
  have b1 : W1.heap[w.heap.size]? = some (.cells #[.int .i64 a.states, .slice As a.start.length cs, .slice Af a.final.length cf, .slice Ae a.edges.length ce] 25 (0, 0)) := by rw [← hW1]; exact heap_alloc_new w _
  have hlt1 : w.heap.size < W1.heap.size := by rw [← hW1]; simp
  obtain ⟨p0, p1, p2, p3⟩ : W1.cell? ⟨w.heap.size, 0, none⟩ = some (.int .i64 a.states) ∧ W1.cell? ⟨w.heap.size, 1, none⟩ = some (.slice As a.start.length cs) ∧ W1.cell? ⟨w.heap.size, 2, none⟩ = some (.slice Af a.final.length cf) ∧ W1.cell? ⟨w.heap.size, 3, none⟩ = some (.slice Ae a.edges.length ce) := ⟨cell_at b1 0, cell_at b1 1, cell_at b1 2, cell_at b1 3⟩
  obtain ⟨W2, hW2⟩ : ∃ W2, W1.alloc (.cells #[.slice As a.start.length cs, .slice Af a.final.length cf] 22) = W2 := ⟨_, rfl⟩
  have d2 : Below W1.heap.size W1 W2 := hW2 ▸ alloc1 W1 _
  have b2 : W2.heap[W1.heap.size]? = some (.cells #[.slice As a.start.length cs, .slice Af a.final.length cf] 22 (0, 0)) := by rw [← hW2]; exact heap_alloc_new W1 _
  have dw := below_next d1 d2
  have hls := ha.s
  have hlf := ha.f
  have hle := ha.e
  have HS := Lib.hid (And.intro hs1 (And.intro hs2 hs3))
  unfold vA
  generalize hst : a.states = st at *
  have HOK := Lib.hid hok
  clear hok hst hs1 hs2 hs3 hfa b1
  by_cases hneg : st < 0
  · go_enter Tryz.func12, Tryz.ntmps12
    go_wp2_with fail
    go_ret
    refine ⟨?_, d1⟩
    have : decide (0 ≤ st) = false := by simp; omega
    rw [HOK.out, this]; rfl
  · have hst0 : 0 ≤ st := by omega
    go_enter Tryz.func12, Tryz.ntmps12
    go_wp2_with fail
    replace p0 := (d2.cell (p := ⟨w.heap.size, 0, none⟩) hlt1).trans p0
    replace p3 := (d2.cell (p := ⟨w.heap.size, 3, none⟩) hlt1).trans p3
    have hlt2 : w.heap.size < W2.heap.size := Nat.lt_of_lt_of_le hlt1 d2.size
    have hltb : W1.heap.size < W2.heap.size := (Array.getElem?_eq_some_iff.1 b2).1
    have u0 : W2.cell? ⟨W1.heap.size, 0, none⟩ = some (.slice As a.start.length cs) := cell_at b2 0
    have u1 : W2.cell? ⟨W1.heap.size, 1, none⟩ = some (.slice Af a.final.length cf) := cell_at b2 1
    clear p1 p2 b2 d1 d2 hW1 hW2
    generalize W2 = w2 at *
    go_loopw [18] (fun i wr => ∃ k : Nat, k ≤ 2 ∧ i = .int .i64 k ∧ Below w2.heap.size w2 wr ∧ (0 < k → a.start.all (inB st) = true) ∧ (1 < k → a.final.all (inB st) = true)) (fun i _ => 2 - (intOf i).toNat)
    case atStart => exact ⟨0, Nat.zero_le _, rfl, Below.refl _ _, fun h => absurd h (by decide), fun h => absurd h (by decide)⟩
    case round =>
      obtain ⟨k, hk, rfl, hb, ha1, ha2⟩ := hrel
      obtain ⟨wo, hwo⟩ : ∃ wo, wo = wr := ⟨_, rfl⟩
      subst hwo
      have v0 := (hb.cell (p := ⟨W1.heap.size, 0, none⟩) hltb).trans u0
      have v1 := (hb.cell (p := ⟨W1.heap.size, 1, none⟩) hltb).trans u1
      by_cases hk2 : k < 2
      · obtain rfl | rfl : k = 0 ∨ k = 1 := by omega
        all_goals clear ha2
        · -- the row start
          rw [show ((0 : Nat) : Int) = 0 from rfl]
          have hRow := HS.out.1
          go_wp2_with fail
          go_loopw [24] (fun i wr => ∃ j : Nat, j ≤ a.start.length ∧ i = .int .i64 j ∧ Below w2.heap.size w2 wr ∧ (a.start.take j).all (inB st) = true) (fun i _ => a.start.length - (intOf i).toNat)
          case atStart => exact ⟨0, Nat.zero_le _, rfl, hb, rfl⟩
          case round =>
            obtain ⟨j, hj, rfl, hb2, hall⟩ := hrel
            clear hb
            by_cases hltj : j < a.start.length
            · obtain ⟨sb, so, rfl, hsb, hsc⟩ := hRow (by omega)
              have hcell := ((below_next dw hb2).cell (p := ⟨sb, so + j, none⟩) hsb).trans (cell1 encI_eq hsc hltj)
              have r0 := (hb2.cell (p := ⟨w.heap.size, 0, none⟩) hlt2).trans p0
              have hi2 : (j : Int) < a.start.length := by omega
              have hmem := List.getElem_mem hltj
              have htk : (a.start.take (j + 1)).all (inB st) = ((a.start.take j).all (inB st) && inB st a.start[j]) := by
                rw [List.take_succ_eq_append_getElem hltj, List.all_append]; simp
              by_cases hs : 0 ≤ a.start[j] ∧ a.start[j] < st
              · obtain ⟨hs0, hs1⟩ := hs
                have hnx : (a.start.take (j + 1)).all (inB st) = true := by rw [htk, hall]; simp [inB]; omega
                have HN := Lib.hid hnx
                clear hnx htk hall hmem hsc hRow
                generalize a.start[j] = s at *
                go_wp2_with fail
                go_roundw
                case rel => exact ⟨j + 1, by omega, by go_num, hb2, HN.out⟩
                case measure => simp [intOf]; omega
              · have hno : a.start.all (inB st) = false := by
                  rw [← Bool.not_eq_true, List.all_eq_true]
                  intro h
                  have := h _ hmem
                  simp [inB] at this
                  exact hs this
                have HN := Lib.hid hno
                clear hno htk hall hmem hsc hRow
                generalize a.start[j] = s at *
                by_cases hs0 : s < 0
                · go_wp2_with fail
                  go_ret
                  exact ⟨by rw [HOK.out, HN.out]; simp, below_next dw hb2⟩
                · have hs1 : st ≤ s := by omega
                  go_wp2_with fail
                  go_ret
                  exact ⟨by rw [HOK.out, HN.out]; simp, below_next dw hb2⟩
            · have hje : j = a.start.length := by omega
              subst hje
              rw [List.take_length] at hall
              have HA := Lib.hid hall
              clear hall hRow
              go_wp2_with fail
              go_roundw
              case rel => exact ⟨1, by omega, by go_num, hb2, fun _ => HA.out, fun h => absurd h (by decide)⟩
              case measure => simp [intOf]

        · -- the row final
          rw [show ((1 : Nat) : Int) = 1 from rfl]
          have hRow := HS.out.2.1
          have HA1 := Lib.hid (ha1 (by decide))
          clear ha1
          go_wp2_with fail
          go_loopw [24] (fun i wr => ∃ j : Nat, j ≤ a.final.length ∧ i = .int .i64 j ∧ Below w2.heap.size w2 wr ∧ (a.final.take j).all (inB st) = true) (fun i _ => a.final.length - (intOf i).toNat)
          case atStart => exact ⟨0, Nat.zero_le _, rfl, hb, rfl⟩
          case round =>
            obtain ⟨j, hj, rfl, hb2, hall⟩ := hrel
            clear hb
            by_cases hltj : j < a.final.length
            · obtain ⟨sb, so, rfl, hsb, hsc⟩ := hRow (by omega)
              have hcell := ((below_next dw hb2).cell (p := ⟨sb, so + j, none⟩) hsb).trans (cell1 encI_eq hsc hltj)
              have r0 := (hb2.cell (p := ⟨w.heap.size, 0, none⟩) hlt2).trans p0
              have hi2 : (j : Int) < a.final.length := by omega
              have hmem := List.getElem_mem hltj
              have htk : (a.final.take (j + 1)).all (inB st) = ((a.final.take j).all (inB st) && inB st a.final[j]) := by
                rw [List.take_succ_eq_append_getElem hltj, List.all_append]; simp
              by_cases hs : 0 ≤ a.final[j] ∧ a.final[j] < st
              · obtain ⟨hs0, hs1⟩ := hs
                have hnx : (a.final.take (j + 1)).all (inB st) = true := by rw [htk, hall]; simp [inB]; omega
                have HN := Lib.hid hnx
                clear hnx htk hall hmem hsc hRow
                generalize a.final[j] = s at *
                go_wp2_with fail
                go_roundw
                case rel => exact ⟨j + 1, by omega, by go_num, hb2, HN.out⟩
                case measure => simp [intOf]; omega
              · have hno : a.final.all (inB st) = false := by
                  rw [← Bool.not_eq_true, List.all_eq_true]
                  intro h
                  have := h _ hmem
                  simp [inB] at this
                  exact hs this
                have HN := Lib.hid hno
                clear hno htk hall hmem hsc hRow
                generalize a.final[j] = s at *
                by_cases hs0 : s < 0
                · go_wp2_with fail
                  go_ret
                  exact ⟨by rw [HOK.out, HN.out]; simp, below_next dw hb2⟩
                · have hs1 : st ≤ s := by omega
                  go_wp2_with fail
                  go_ret
                  exact ⟨by rw [HOK.out, HN.out]; simp, below_next dw hb2⟩
            · have hje : j = a.final.length := by omega
              subst hje
              rw [List.take_length] at hall
              have HA := Lib.hid hall
              clear hall hRow
              go_wp2_with fail
              go_roundw
              case rel => exact ⟨2, by omega, by go_num, hb2, fun _ => HA1.out, fun _ => HA.out⟩
              case measure => simp [intOf]
      · have : k = 2 := by omega
        subst this
        have HA1 := Lib.hid (And.intro (ha1 (by decide)) (ha2 (by decide)))
        clear ha1 ha2 u0 u1 v0 v1
        rw [show ((2 : Nat) : Int) = 2 from rfl]
        have r3 := (hb.cell (p := ⟨w.heap.size, 3, none⟩) hlt2).trans p3
        have hRow := HS.out.2.2
        go_wp2_with fail
        go_loopw [41] (fun i wr => ∃ j : Nat, j ≤ a.edges.length ∧ i = .int .i64 j ∧ Below w2.heap.size w2 wr ∧ (a.edges.take j).all (mayE st) = true) (fun i _ => a.edges.length - (intOf i).toNat)
        case atStart => exact ⟨0, Nat.zero_le _, rfl, hb, rfl⟩
        case round =>
          obtain ⟨j, hj, rfl, hb2, hall⟩ := hrel
          clear hb r3
          by_cases hltj : j < a.edges.length
          · obtain ⟨eb, eo, rfl, heb2, hec⟩ := hRow (by omega)
            obtain ⟨z0, z1, z2, z3, z4, z5, z6⟩ := cell7 hec hltj
            have dd := below_next dw hb2
            have y0 := (dd.cell (p := ⟨eb, eo + j * 7, none⟩) heb2).trans z0
            have y1 := (dd.cell (p := ⟨eb, eo + j * 7 + 1, none⟩) heb2).trans z1
            have y2 := (dd.cell (p := ⟨eb, eo + j * 7 + 2, none⟩) heb2).trans z2
            have y3 := (dd.cell (p := ⟨eb, eo + j * 7 + 3, none⟩) heb2).trans z3
            have y4 := (dd.cell (p := ⟨eb, eo + j * 7 + 4, none⟩) heb2).trans z4
            have y5 := (dd.cell (p := ⟨eb, eo + j * 7 + 5, none⟩) heb2).trans z5
            have y6 := (dd.cell (p := ⟨eb, eo + j * 7 + 6, none⟩) heb2).trans z6
            have r0 := (hb2.cell (p := ⟨w.heap.size, 0, none⟩) hlt2).trans p0
            have hbw := Nat.lt_of_lt_of_le hlt2 hb2.size
            have hmem := List.getElem_mem hltj
            have htk : (a.edges.take (j + 1)).all (mayE st) = ((a.edges.take j).all (mayE st) && mayE st a.edges[j]) := by
              rw [List.take_succ_eq_append_getElem hltj, List.all_append]; simp
            have hno : mayE st a.edges[j] = false → a.ok = false := by
              intro h
              have : a.edges.all (mayE st) = false := by
                rw [← Bool.not_eq_true, List.all_eq_true]
                intro h2
                rw [h2 _ hmem] at h
                cases h
              rw [HOK.out, this]; simp
            have hyes : mayE st a.edges[j] = true → (a.edges.take (j + 1)).all (mayE st) = true := by
              intro h; rw [htk, hall, h]; rfl
            clear z0 z1 z2 z3 z4 z5 z6 hec htk hall hmem hRow
            generalize a.edges[j] = ed at *
            obtain ⟨ex, ey, ef, eset⟩ := ed
            simp only at y0 y1 y2 y3 y4 y5 y6
            have heq := fun W => run_eql_set W eset ⟨0#64, 0#64, 0#64, 0#64⟩
            unfold vS at heq
            simp only [BitVec.toNat_ofNat, Nat.zero_mod, Int.natCast_zero] at heq
            have hmay := mayE_set st ⟨ex, ey, ef, eset⟩
            simp only at hmay
            have hba := hb2.trans ((alloc1 wr (.cells #[.int .i64 ex, .int .i64 ey, .bool ef, .int .u64 eset.w0.toNat, .int .u64 eset.w1.toNat, .int .u64 eset.w2.toNat, .int .u64 eset.w3.toNat] 73)).mono hb2.size)
            rw [hmay] at hno hyes
            clear hmay
            generalize decide (eset = ⟨0#64, 0#64, 0#64, 0#64⟩) = z at *
            have HN := Lib.hid (And.intro hno hyes)
            clear hno hyes
            by_cases hx0 : ex < 0
            · have t1 : decide (ex < 0) = true := by simpa using hx0
              go_wp2_with fail
              go_quiet (fail)
              go_wp2_with fail
              go_ret
              refine ⟨?_, below_next dw (below_drewN hba _)⟩
              rw [HN.out.1 (by simp [inB]; omega)]; rfl
            · have t1 : decide (ex < 0) = false := by simpa using hx0
              by_cases hx1 : st ≤ ex
              · have t2 : decide (st ≤ ex) = true := by simpa using hx1
                go_wp2_with fail
                go_quiet (fail)
                go_wp2_with fail
                go_ret
                refine ⟨?_, below_next dw (below_drewN hba _)⟩
                rw [HN.out.1 (by simp [inB]; omega)]; rfl
              · have t2 : decide (st ≤ ex) = false := by simpa using hx1
                by_cases hy0 : ey < 0
                · have t3 : decide (ey < 0) = true := by simpa using hy0
                  go_wp2_with fail
                  go_quiet (fail)
                  go_wp2_with fail
                  go_ret
                  refine ⟨?_, below_next dw (below_drewN hba _)⟩
                  rw [HN.out.1 (by simp [inB]; omega)]; rfl
                · have t3 : decide (ey < 0) = false := by simpa using hy0
                  by_cases hy1 : st ≤ ey
                  · have t4 : decide (st ≤ ey) = true := by simpa using hy1
                    go_wp2_with fail
                    go_quiet (fail)
                    go_wp2_with fail
                    go_ret
                    refine ⟨?_, below_next dw (below_drewN hba _)⟩
                    rw [HN.out.1 (by simp [inB]; omega)]; rfl
                  · have t4 : decide (st ≤ ey) = false := by simpa using hy1
                    have hin : inB st ex = true ∧ inB st ey = true := by simp [inB]; omega
                    have HI := Lib.hid hin
                    clear hin
                    cases ef with
                    | false =>
                      cases z with
                      | false =>
                        go_wp2_with fail
                        go_quiet (fail)
                        go_wp2_with fail
                        go_roundw
                        case rel => exact ⟨j + 1, by omega, by go_num, below_drewN hba _, HN.out.2 (by rw [HI.out.1, HI.out.2]; rfl)⟩
                        case measure => simp [intOf]; omega
                      | true =>
                        go_wp2_with fail
                        go_quiet (fail)
                        go_wp2_with fail
                        go_ret
                        refine ⟨?_, below_next dw (below_drewN hba _)⟩
                        rw [HN.out.1 (by rw [HI.out.1, HI.out.2]; rfl)]; rfl
                    | true =>
                      cases z with
                      | false =>
                        go_wp2_with fail
                        go_quiet (fail)
                        go_wp2_with fail
                        go_ret
                        refine ⟨?_, below_next dw (below_drewN hba _)⟩
                        rw [HN.out.1 (by rw [HI.out.1, HI.out.2]; rfl)]; rfl
                      | true =>
                        go_wp2_with fail
                        go_quiet (fail)
                        go_wp2_with fail
                        go_roundw
                        case rel => exact ⟨j + 1, by omega, by go_num, below_drewN hba _, HN.out.2 (by rw [HI.out.1, HI.out.2]; rfl)⟩
                        case measure => simp [intOf]; omega
          · have hje : j = a.edges.length := by omega
            subst hje
            rw [List.take_length] at hall
            have hres : a.ok = true := by
              rw [HOK.out, HA1.out.1, HA1.out.2, hall]
              simp; omega
            have HR := Lib.hid hres
            clear hres hall hRow
            go_wp2_with fail
            go_ret
            exact ⟨by rw [HR.out]; rfl, below_next dw hb2⟩
end Go.Proofs.YtakldmbbmefnbaaGreat
/- the law's own functions: bits. -/
namespace Go.Proofs.YtakldmbbmefnbaaGreat
open Go.RowKit Go.Sort Go.Proofs
set_option maxRecDepth 100000
set_option maxHeartbeats 1000000

theorem bits_c (w : World) :
    Calls Tryz.prog 122 #[.string ⟨#[99]⟩] w (fun r w' => r = .returned (vS ⟨0#64, 0x800000000#64, 0#64, 0#64⟩) ∧ Below w.heap.size w w') := by
  obtain ⟨W2, hW2⟩ : ∃ W2, (w.alloc (.cells #[.int .u64 0, .int .u64 0, .int .u64 0, .int .u64 0] 69)).alloc (.cells #[.int .u64 0, .int .u64 0, .int .u64 0, .int .u64 0] 69) = W2 := ⟨_, rfl⟩
  obtain ⟨cc, W3, hconv, d3, z3, hby, hcc⟩ := conv_bytes W2 [99]
  have b2 : W2.heap[w.heap.size + 1]? = some (.cells #[.int .u64 0, .int .u64 0, .int .u64 0, .int .u64 0] 69 (0, 0)) := by
    rw [← hW2]; have := heap_alloc_new (w.alloc (.cells #[.int .u64 0, .int .u64 0, .int .u64 0, .int .u64 0] 69)) (.cells #[.int .u64 0, .int .u64 0, .int .u64 0, .int .u64 0] 69); rwa [World.size_alloc] at this
  have b1 : W2.heap[w.heap.size]? = some (.cells #[.int .u64 0, .int .u64 0, .int .u64 0, .int .u64 0] 69 (0, 0)) := by
    rw [← hW2, Below.heap_alloc _ _ _ (by simp)]; exact heap_alloc_new w _
  have c2 := (d3.block _ (Array.getElem?_eq_some_iff.1 b2).1).trans b2
  have c1 := (d3.block _ (Array.getElem?_eq_some_iff.1 b1).1).trans b1
  have hs : W2.heap.size = w.heap.size + 2 := by rw [← hW2]; simp
  have q0 := cell_at c2 0; have q1 := cell_at c2 1; have q2 := cell_at c2 2; have q3 := cell_at c2 3
  have p0 := cell_at c1 0; have p1 := cell_at c1 1; have p2 := cell_at c1 2; have p3 := cell_at c1 3
  have g0 := free_at c2 0; have g1 := free_at c2 1; have g2 := free_at c2 2; have g3 := free_at c2 3
  have h0 := free_at c1 0; have h1 := free_at c1 1; have h2 := free_at c1 2; have h3 := free_at c1 3
  have hb0 := hby 0 (by decide)
  simp only [List.getElem?_toArray, List.getElem?_cons_zero, List.getElem?_cons_succ, List.getElem_cons_zero] at q0 q1 q2 q3 p0 p1 p2 p3 hb0
  have hn : (UInt8.toNat 99 : Int) = 99 := by decide
  rw [hn] at hb0
  have hor : bits BinOp.or IntKind.u64 0 34359738368 = 34359738368 := by kernel_rfl
  have HS := Lib.hid (And.intro hs (And.intro d3 z3))
  clear hby hn b1 b2 c1 c2 hs d3 z3
  go_enter Tryz.func122, Tryz.ntmps122
  go_wp2
  go_rounds 3
  have hsz := HS.out
  refine ⟨rfl, vS ⟨0#64, 0x800000000#64, 0#64, 0#64⟩, ?_, rfl, ?_⟩
  · simp [results, Tryz.results122, go_sem, p0, p1, p2, p3, vS]
  · have h := below_next (below_next (alloc1 w (.cells #[.int .u64 0, .int .u64 0, .int .u64 0, .int .u64 0] 69)) (alloc1 _ (.cells #[.int .u64 0, .int .u64 0, .int .u64 0, .int .u64 0] 69))) (hW2 ▸ hsz.2.1)
    repeat' (first | with_reducible refine Below.setCell ?_ ?_ _ | with_reducible exact h)
    all_goals first | (show w.heap.size ≤ w.heap.size; omega) | (show w.heap.size ≤ w.heap.size + 1; omega)
theorem bits_ab (w : World) :
    Calls Tryz.prog 122 #[.string ⟨#[97, 98]⟩] w (fun r w' => r = .returned (vS ⟨0#64, 0x600000000#64, 0#64, 0#64⟩) ∧ Below w.heap.size w w') := by
  obtain ⟨W2, hW2⟩ : ∃ W2, (w.alloc (.cells #[.int .u64 0, .int .u64 0, .int .u64 0, .int .u64 0] 69)).alloc (.cells #[.int .u64 0, .int .u64 0, .int .u64 0, .int .u64 0] 69) = W2 := ⟨_, rfl⟩
  obtain ⟨cc, W3, hconv, d3, z3, hby, hcc⟩ := conv_bytes W2 [97, 98]
  have b2 : W2.heap[w.heap.size + 1]? = some (.cells #[.int .u64 0, .int .u64 0, .int .u64 0, .int .u64 0] 69 (0, 0)) := by
    rw [← hW2]; have := heap_alloc_new (w.alloc (.cells #[.int .u64 0, .int .u64 0, .int .u64 0, .int .u64 0] 69)) (.cells #[.int .u64 0, .int .u64 0, .int .u64 0, .int .u64 0] 69); rwa [World.size_alloc] at this
  have b1 : W2.heap[w.heap.size]? = some (.cells #[.int .u64 0, .int .u64 0, .int .u64 0, .int .u64 0] 69 (0, 0)) := by
    rw [← hW2, Below.heap_alloc _ _ _ (by simp)]; exact heap_alloc_new w _
  have c2 := (d3.block _ (Array.getElem?_eq_some_iff.1 b2).1).trans b2
  have c1 := (d3.block _ (Array.getElem?_eq_some_iff.1 b1).1).trans b1
  have hs : W2.heap.size = w.heap.size + 2 := by rw [← hW2]; simp
  have q0 := cell_at c2 0; have q1 := cell_at c2 1; have q2 := cell_at c2 2; have q3 := cell_at c2 3
  have p0 := cell_at c1 0; have p1 := cell_at c1 1; have p2 := cell_at c1 2; have p3 := cell_at c1 3
  have g0 := free_at c2 0; have g1 := free_at c2 1; have g2 := free_at c2 2; have g3 := free_at c2 3
  have h0 := free_at c1 0; have h1 := free_at c1 1; have h2 := free_at c1 2; have h3 := free_at c1 3
  have hb0 := hby 0 (by decide)
  have hb1 := hby 1 (by decide)
  simp only [List.getElem?_toArray, List.getElem?_cons_zero, List.getElem?_cons_succ, List.getElem_cons_zero, List.getElem_cons_succ] at q0 q1 q2 q3 p0 p1 p2 p3 hb0 hb1
  have hn : (UInt8.toNat 97 : Int) = 97 := by decide
  have hn2 : (UInt8.toNat 98 : Int) = 98 := by decide
  rw [hn] at hb0
  rw [hn2] at hb1
  rw [hs] at hb0 hb1 hconv
  have hor : bits BinOp.or IntKind.u64 0 8589934592 = 8589934592 := by kernel_rfl
  have hor2 : bits BinOp.or IntKind.u64 8589934592 17179869184 = 25769803776 := by kernel_rfl
  have HS := Lib.hid (And.intro hs (And.intro d3 z3))
  clear hby hn hn2 b1 b2 c1 c2 hs d3 z3
  go_enter Tryz.func122, Tryz.ntmps122
  go_wp2
  go_rounds 4
  have hsz := HS.out
  refine ⟨rfl, vS ⟨0#64, 0x600000000#64, 0#64, 0#64⟩, ?_, rfl, ?_⟩
  · simp [results, Tryz.results122, go_sem, p0, p1, p2, p3, vS]
  · have h := below_next (below_next (alloc1 w (.cells #[.int .u64 0, .int .u64 0, .int .u64 0, .int .u64 0] 69)) (alloc1 _ (.cells #[.int .u64 0, .int .u64 0, .int .u64 0, .int .u64 0] 69))) (hW2 ▸ hsz.2.1)
    repeat' (first | with_reducible refine Below.setCell ?_ ?_ _ | with_reducible exact h)
    all_goals first | (show w.heap.size ≤ w.heap.size; omega) | (show w.heap.size ≤ w.heap.size + 1; omega)
end Go.Proofs.YtakldmbbmefnbaaGreat
/- the law's own functions: three. -/
namespace Go.Proofs.YtakldmbbmefnbaaGreat
open Go.RowKit Go.Sort Go.Proofs
set_option maxRecDepth 100000
set_option maxHeartbeats 400000

def sAB : BSet := ⟨0#64, 0x600000000#64, 0#64, 0#64⟩
def sC : BSet := ⟨0#64, 0x800000000#64, 0#64, 0#64⟩
def s0 : BSet := ⟨0#64, 0#64, 0#64, 0#64⟩
/-- The chapter's automaton. -/
def three : A := ⟨3, [0], [2], [⟨0, 1, true, s0⟩, ⟨1, 2, false, sAB⟩, ⟨2, 0, true, s0⟩, ⟨2, 2, false, sC⟩]⟩

theorem three_ok (w : World) :
    Calls Tryz.prog 58 #[] w (fun r w' => (∃ vs vf ve, r = .returned (vA three vs vf ve) ∧ FaAt w' w'.heap.size three vs vf ve) ∧ Below w.heap.size w w') := by
  have hab : ∀ W : World, Calls Tryz.prog 122 #[.string ⟨#[97, 98]⟩] W (fun r w' => r = .returned (.agg #[.int .u64 0, .int .u64 25769803776, .int .u64 0, .int .u64 0]) ∧ Below W.heap.size W w') := bits_ab
  have hc : ∀ W : World, Calls Tryz.prog 122 #[.string ⟨#[99]⟩] W (fun r w' => r = .returned (.agg #[.int .u64 0, .int .u64 34359738368, .int .u64 0, .int .u64 0]) ∧ Below W.heap.size W w') := bits_c
  obtain ⟨W1, hW1⟩ : ∃ W1, w.alloc (.cells #[.int .i64 0, .slice none 0 0, .slice none 0 0, .slice none 0 0] 25) = W1 := ⟨_, rfl⟩
  obtain ⟨W2, hW2⟩ : ∃ W2, W1.alloc (.cells #[.int .i64 0] 3) = W2 := ⟨_, rfl⟩
  obtain ⟨W3, hW3⟩ : ∃ W3, W2.alloc (.cells #[.int .i64 2] 3) = W3 := ⟨_, rfl⟩
  have k1 : Below w.heap.size w W1 := hW1 ▸ alloc1 w _
  have k2 : Below W1.heap.size W1 W2 := hW2 ▸ alloc1 W1 _
  have k3 : Below W2.heap.size W2 W3 := hW3 ▸ alloc1 W2 _
  have z1 : W1.heap.size = w.heap.size + 1 := by rw [← hW1]; simp
  have z2 : W2.heap.size = W1.heap.size + 1 := by rw [← hW2]; simp
  have z3 : W3.heap.size = W2.heap.size + 1 := by rw [← hW3]; simp
  have b0 : W3.heap[w.heap.size]? = some (.cells #[.int .i64 0, .slice none 0 0, .slice none 0 0, .slice none 0 0] 25 (0, 0)) := by
    rw [k3.block _ (by omega), k2.block _ (by omega), ← hW1]; exact heap_alloc_new w _
  have b1 : W3.heap[W1.heap.size]? = some (.cells #[.int .i64 0] 3 (0, 0)) := by
    rw [k3.block _ (by omega), ← hW2]; exact heap_alloc_new W1 _
  have b2 : W3.heap[W2.heap.size]? = some (.cells #[.int .i64 2] 3 (0, 0)) := by rw [← hW3]; exact heap_alloc_new W2 _
  have HZ := Lib.hid (And.intro z1 (And.intro z2 z3))
  clear z1 z2 z3
  go_enter Tryz.func58, Tryz.ntmps58
  go_wp2_with fail
  refine (hab _).mono ?_
  rintro e w1 ⟨rfl, d1⟩
  go_wp2_with fail
  refine (hc _).mono ?_
  rintro e w2 ⟨rfl, d2⟩
  have d12 := below_next d1 d2
  have a0 := (d12.block _ (Array.getElem?_eq_some_iff.1 b0).1).trans b0
  have a1 := (d12.block _ (Array.getElem?_eq_some_iff.1 b1).1).trans b1
  have a2 := (d12.block _ (Array.getElem?_eq_some_iff.1 b2).1).trans b2
  have hla := (Array.getElem?_eq_some_iff.1 a0).1
  have c0 := cell_at a0 0; have c1 := cell_at a0 1; have c2 := cell_at a0 2; have c3 := cell_at a0 3
  have g0 := free_at a0 0; have g1 := free_at a0 1; have g2 := free_at a0 2; have g3 := free_at a0 3
  simp only [List.getElem?_toArray, List.getElem?_cons_zero, List.getElem?_cons_succ] at c0 c1 c2 c3
  go_wp2
  have hz := HZ.out
  have hs12 := d12.size
  obtain ⟨es, hes⟩ : ∃ es : Array Value, es = #[.int .i64 0, .int .i64 1, .bool true, .int .u64 0, .int .u64 0, .int .u64 0, .int .u64 0, .int .i64 1, .int .i64 2, .bool false, .int .u64 0, .int .u64 25769803776, .int .u64 0, .int .u64 0,
    .int .i64 2, .int .i64 0, .bool true, .int .u64 0, .int .u64 0, .int .u64 0, .int .u64 0, .int .i64 2, .int .i64 2, .bool false, .int .u64 0, .int .u64 34359738368, .int .u64 0, .int .u64 0] := ⟨_, rfl⟩
  rw [← hes]
  obtain ⟨W4, hW4⟩ : ∃ W4, (((w2.setCell ⟨w.heap.size, 0, none⟩ (.int .i64 3)).setCell ⟨w.heap.size, 1, none⟩ (.slice (some ⟨W1.heap.size, 0, none⟩) 1 1)).setCell ⟨w.heap.size, 2, none⟩ (.slice (some ⟨W2.heap.size, 0, none⟩) 1 1)).setCell ⟨w.heap.size, 3, none⟩ (.slice (some ⟨w2.heap.size, 0, none⟩) 4 4) = W4 := ⟨_, rfl⟩
  rw [hW4]
  have s4 : W4.heap.size = w2.heap.size := by rw [← hW4]; simp [World.setCell]
  have f0 : W4.heap[w.heap.size]? = some (.cells #[.int .i64 3, .slice (some ⟨W1.heap.size, 0, none⟩) 1 1, .slice (some ⟨W2.heap.size, 0, none⟩) 1 1, .slice (some ⟨w2.heap.size, 0, none⟩) 4 4] 25 (0, 0)) := by
    rw [← hW4]; exact heap_set (heap_set (heap_set (heap_set a0 0 _) 1 _) 2 _) 3 _
  have f1 : W4.heap[W1.heap.size]? = some (.cells #[.int .i64 0] 3 (0, 0)) := by
    rw [← hW4, Below.heap_setCell _ _ _ _ (by show W1.heap.size ≠ w.heap.size; omega), Below.heap_setCell _ _ _ _ (by show W1.heap.size ≠ w.heap.size; omega), Below.heap_setCell _ _ _ _ (by show W1.heap.size ≠ w.heap.size; omega), Below.heap_setCell _ _ _ _ (by show W1.heap.size ≠ w.heap.size; omega)]; exact a1
  have f2 : W4.heap[W2.heap.size]? = some (.cells #[.int .i64 2] 3 (0, 0)) := by
    rw [← hW4, Below.heap_setCell _ _ _ _ (by show W2.heap.size ≠ w.heap.size; omega), Below.heap_setCell _ _ _ _ (by show W2.heap.size ≠ w.heap.size; omega), Below.heap_setCell _ _ _ _ (by show W2.heap.size ≠ w.heap.size; omega), Below.heap_setCell _ _ _ _ (by show W2.heap.size ≠ w.heap.size; omega)]; exact a2
  have hbw : Below w.heap.size w w2 := below_next k1 (below_next k2 (below_next k3 d12))
  have hb4 : Below w.heap.size w W4 := by
    rw [← hW4]
    exact (((hbw.setCell (Nat.le_refl _) _).setCell (Nat.le_refl _) _).setCell (Nat.le_refl _) _).setCell (Nat.le_refl _) _
  have ha4 : Below W4.heap.size W4 (W4.alloc (.cells es 73)) := alloc1 W4 _
  have g0' := (ha4.block _ (Array.getElem?_eq_some_iff.1 f0).1).trans f0
  have g1' := (ha4.block _ (Array.getElem?_eq_some_iff.1 f1).1).trans f1
  have g2' := (ha4.block _ (Array.getElem?_eq_some_iff.1 f2).1).trans f2
  have g3' : (W4.alloc (.cells es 73)).heap[w2.heap.size]? = some (.cells es 73 (0, 0)) := by rw [← s4]; exact heap_alloc_new W4 _
  have r0 := cell_at g0' 0; have r1 := cell_at g0' 1; have r2 := cell_at g0' 2; have r3 := cell_at g0' 3
  simp only [List.getElem?_toArray, List.getElem?_cons_zero, List.getElem?_cons_succ] at r0 r1 r2 r3
  have o1 : Own encI 1 3 (W4.alloc (.cells es 73)) 0 (.slice (some ⟨W1.heap.size, 0, none⟩) 1 1) three.start := .inr ⟨_, 1, _, rfl, Nat.zero_le _, by decide, by decide, by decide, g1', by decide, rfl⟩
  have o2 : Own encI 1 3 (W4.alloc (.cells es 73)) 0 (.slice (some ⟨W2.heap.size, 0, none⟩) 1 1) three.final := .inr ⟨_, 1, _, rfl, Nat.zero_le _, by decide, by decide, by decide, g2', by decide, rfl⟩
  have o3 : Own encE 7 73 (W4.alloc (.cells es 73)) 0 (.slice (some ⟨w2.heap.size, 0, none⟩) 4 4) three.edges := .inr ⟨_, 4, es, rfl, Nat.zero_le _, by decide, by decide, by decide, g3', by rw [hes]; decide, by rw [hes]; rfl⟩
  refine ⟨rfl, vA three (.slice (some ⟨W1.heap.size, 0, none⟩) 1 1) (.slice (some ⟨W2.heap.size, 0, none⟩) 1 1) (.slice (some ⟨w2.heap.size, 0, none⟩) 4 4), ?_, ⟨_, _, _, rfl, ⟨o1.sl encI_len, o2.sl encI_len, o3.sl encE_len⟩⟩, hb4.trans (ha4.mono hb4.size)⟩
  simp [results, Tryz.results58, go_sem, r0, r1, r2, r3, vA, three]
end Go.Proofs.YtakldmbbmefnbaaGreat
/- To which states one comes, from which one comes to a final, by runs along words; no program in sight. -/
namespace Go.Proofs.YtakldmbbmefnbaaGreat

variable {a : A}

theorem comes_edge (ha : Fit a) {e : E} (he : e ∈ a.edges) : ∃ w, Comes a e.src w e.dst := by
  cases hf : e.free with
  | true => exact ⟨[], .free he hf (.nil _)⟩
  | false =>
    obtain ⟨b, hb⟩ := (edge_in ha he).2.2 hf
    exact ⟨[b], .byte he hf hb (.nil _)⟩
theorem pair_in {back : Bool} {p : Int × Int} : p ∈ a.pairs back (fun _ => true) ↔ ∃ e ∈ a.edges, turned back e = p := by
  unfold A.pairs
  rw [List.mem_map]
  simp
theorem mem_reach (ha : Fit a) {l : List Int} (hl : Inb a l) {s : Int} : s ∈ a.reach l ↔ ∃ r ∈ l, ∃ w, Comes a r w s := by
  have h0 : 0 ≤ a.states := by have := ha.ok; simp [A.ok] at this; omega
  unfold A.reach
  rw [mem_cl]
  constructor
  · intro h9
    replace h9 := h9.2
    induction h9 with
    | start h => exact ⟨_, h, [], .nil _⟩
    | @step r s _ hp ih =>
      obtain ⟨q, hq, w, hc⟩ := ih
      obtain ⟨e, he, h2⟩ := pair_in.1 hp
      simp [turned] at h2
      obtain ⟨rfl, rfl⟩ := h2
      obtain ⟨v, hv⟩ := comes_edge ha he
      exact ⟨q, hq, w ++ v, hc.append hv⟩
  · rintro ⟨r, hr, w, hc⟩
    have hg : Goes (a.pairs false (fun _ => true)) l s := by
      have h1 : Goes (a.pairs false (fun _ => true)) l r := .start hr
      clear hr
      induction hc with
      | nil => exact h1
      | @free e w t he hf _ ih => exact ih (.step h1 (pair_in.2 ⟨e, he, by simp [turned]⟩))
      | @byte e b w t he hf hb _ ih => exact ih (.step h1 (pair_in.2 ⟨e, he, by simp [turned]⟩))
    have := goes_in ha hl hg
    exact ⟨by omega, hg⟩
theorem mem_alive (ha : Fit a) {s : Int} : s ∈ a.alive ↔ ∃ w, ∃ t ∈ a.final, Comes a s w t := by
  have h0 : 0 ≤ a.states := by have := ha.ok; simp [A.ok] at this; omega
  unfold A.alive
  rw [mem_cl]
  constructor
  · intro h9
    replace h9 := h9.2
    induction h9 with
    | start h => exact ⟨[], _, h, .nil _⟩
    | @step r s _ hp ih =>
      obtain ⟨w, t, ht, hc⟩ := ih
      obtain ⟨e, he, h2⟩ := pair_in.1 hp
      simp [turned] at h2
      obtain ⟨rfl, rfl⟩ := h2
      obtain ⟨v, hv⟩ := comes_edge ha he
      exact ⟨v ++ w, t, ht, hv.append hc⟩
  · rintro ⟨w, t, ht, hc⟩
    have hg : Goes (a.pairs true (fun _ => true)) a.final s := by
      induction hc with
      | nil => exact .start ht
      | @free e w t he hf _ ih => exact .step (ih ht) (pair_in.2 ⟨e, he, by simp [turned]⟩)
      | @byte e b w t he hf hb _ ih => exact .step (ih ht) (pair_in.2 ⟨e, he, by simp [turned]⟩)
    have hs : 0 ≤ s ∧ s < a.states := by
      cases hg with
      | start h => exact inb_final ha _ h
      | step _ hp =>
        obtain ⟨e, he, h2⟩ := pair_in.1 hp
        simp [turned] at h2
        have := edge_in ha he
        omega
    exact ⟨by omega, hg⟩
theorem mem_live (ha : Fit a) {s : Int} : s ∈ a.live ↔ (∃ r ∈ a.start, ∃ v, Comes a r v s) ∧ ∃ w, ∃ t ∈ a.final, Comes a s w t := by
  unfold A.live
  rw [List.mem_filter, mem_reach ha (inb_start ha)]
  refine and_congr Iff.rfl ?_
  rw [← mem_alive ha, List.any_eq_true]
  simp
theorem live_some (ha : Fit a) : 0 < a.live.length ↔ ∃ w, a.takes w := by
  constructor
  · intro h
    obtain ⟨s, hs⟩ := List.exists_mem_of_length_pos h
    obtain ⟨⟨r, hr, v, hv⟩, w, t, ht, hw⟩ := (mem_live ha).1 hs
    exact ⟨v ++ w, r, hr, t, ht, hv.append hw⟩
  · rintro ⟨w, r, hr, t, ht, hc⟩
    exact List.length_pos_of_mem ((mem_live ha).2 ⟨⟨r, hr, [], .nil _⟩, w, t, ht, hc⟩)
theorem starts_alive (ha : Fit a) : a.start.any (fun s => a.alive.any (fun x => s == x)) = true ↔ ∃ w, a.takes w := by
  rw [List.any_eq_true]
  simp only [List.any_eq_true, beq_iff_eq]
  constructor
  · rintro ⟨s, hs, x, hx, rfl⟩
    obtain ⟨w, t, ht, hc⟩ := (mem_alive ha).1 hx
    exact ⟨w, s, hs, t, ht, hc⟩
  · rintro ⟨w, r, hr, t, ht, hc⟩
    exact ⟨r, hr, r, (mem_alive ha).2 ⟨w, t, ht, hc⟩, rfl⟩

theorem after_reach (ha : Fit a) (w : List UInt8) {s : Int} (h : s ∈ a.after w) : s ∈ a.reach a.start := by
  obtain ⟨r, hr, hc⟩ := (mem_after ha).1 h
  exact (mem_reach ha (inb_start ha)).2 ⟨r, hr, w, hc⟩
end Go.Proofs.YtakldmbbmefnbaaGreat
/- What the chapter's automaton does; no program in sight. -/
namespace Go.Proofs.YtakldmbbmefnbaaGreat

theorem cl_eq {n : Nat} {ps : List (Int × Int)} {l ys : List Int} (hy : Strict ys) (h : ∀ s, s ∈ ys ↔ (0 ≤ s ∧ s < n) ∧ Goes ps l s) : cl n ps l = ys :=
  strict_ext (cl_strict ..) hy (fun s => mem_cl.trans (h s).symm)
theorem strict012 : Strict [0, 1, 2] := by unfold Strict; simp
theorem cl_all {ps : List (Int × Int)} {l : List Int} (h0 : Goes ps l 0) (h1 : Goes ps l 1) (h2 : Goes ps l 2) : cl 3 ps l = [0, 1, 2] := by
  refine cl_eq strict012 fun s => ?_
  constructor
  · intro h
    simp at h
    rcases h with rfl | rfl | rfl
    · exact ⟨by omega, h0⟩
    · exact ⟨by omega, h1⟩
    · exact ⟨by omega, h2⟩
  · rintro ⟨h, _⟩
    have : s = 0 ∨ s = 1 ∨ s = 2 := by omega
    simpa using this
theorem three_free : three.pairs false (fun e => e.free) = [(0, 1), (2, 0)] := rfl
theorem three_pairs : three.pairs false (fun _ => true) = [(0, 1), (1, 2), (2, 0), (2, 2)] := rfl
theorem three_back : three.pairs true (fun _ => true) = [(1, 0), (2, 1), (0, 2), (2, 2)] := rfl
theorem three_clo {l : List Int} (h : 2 ∈ l) : three.clo l = [0, 1, 2] := by
  unfold A.clo
  rw [three_free]
  have h2 : Goes [(0, 1), (2, 0)] l 2 := .start h
  have h0 : Goes [(0, 1), (2, 0)] l 0 := .step h2 (by simp)
  exact cl_all h0 (.step h0 (by simp)) h2
theorem three_clo0 : three.clo [0] = [0, 1] := by
  unfold A.clo
  rw [three_free]
  have h0 : Goes [(0, 1), (2, 0)] [0] 0 := .start (by simp)
  refine cl_eq (by unfold Strict; simp) fun s => ?_
  constructor
  · intro h
    simp at h
    rcases h with rfl | rfl
    · exact ⟨by simp [three], h0⟩
    · exact ⟨by simp [three], .step h0 (by simp)⟩
  · rintro ⟨_, h⟩
    induction h with
    | start h => simp at h; simp [h]
    | step _ hp ih =>
      simp at hp ih
      simp
      omega
theorem three_step0 : three.step [0] 97 = [0, 1, 2] := by
  unfold A.step
  rw [three_clo0]
  exact three_clo (by simp [three, leads, sAB, sC, s0, BSet.has, BSet.word])
theorem three_step1 : three.step [0, 1, 2] 97 = [0, 1, 2] ∧ three.step [0, 1, 2] 99 = [0, 1, 2] ∧ three.step [0, 1, 2] 98 = [0, 1, 2] := by
  unfold A.step
  rw [three_clo (l := [0, 1, 2]) (by simp)]
  exact ⟨three_clo (by simp [three, leads, sAB, sC, s0, BSet.has, BSet.word]), three_clo (by simp [three, leads, sAB, sC, s0, BSet.has, BSet.word]), three_clo (by simp [three, leads, sAB, sC, s0, BSet.has, BSet.word])⟩
theorem three_step01 : three.step [0, 1] 97 = [0, 1, 2] := by
  unfold A.step
  have : three.clo [0, 1] = [0, 1] := by
    unfold A.clo
    rw [three_free]
    have h0 : Goes [(0, 1), (2, 0)] [0, 1] 0 := .start (by simp)
    refine cl_eq (by unfold Strict; simp) fun s => ?_
    constructor
    · intro h
      simp at h
      rcases h with rfl | rfl
      · exact ⟨by simp [three], h0⟩
      · exact ⟨by simp [three], .step h0 (by simp)⟩
    · rintro ⟨_, h⟩
      induction h with
      | start h => exact h
      | step _ hp ih =>
        simp at hp ih
        simp
        omega
  rw [this]
  exact three_clo (by simp [three, leads, sAB, sC, s0, BSet.has, BSet.word])
theorem three_after0 : three.after [] = [0, 1] := three_clo0
theorem three_after1 : three.after [97] = [0, 1, 2] := by
  show three.step (three.clo [0]) 97 = _
  rw [three_clo0, three_step01]
theorem three_after3 : three.after [97, 99, 98] = [0, 1, 2] := by
  show three.step (three.step (three.step (three.clo [0]) 97) 99) 98 = _
  rw [three_clo0, three_step01, three_step1.2.1, three_step1.2.2]
theorem three_ends0 : three.ends (three.after []) = false := by rw [three_after0]; rfl
theorem three_ends3 : three.ends (three.after [97, 99, 98]) = true := by rw [three_after3]; rfl
theorem three_ok' : three.ok = true := by decide
theorem three_fit : Fit three := ⟨three_ok', by simp [three], by simp [three], by simp [three], by simp [three]⟩
theorem three_reach1 : three.reach [1] = [0, 1, 2] := by
  unfold A.reach
  rw [three_pairs]
  have h1 : Goes [(0, 1), (1, 2), (2, 0), (2, 2)] [1] 1 := .start (by simp)
  have h2 : Goes [(0, 1), (1, 2), (2, 0), (2, 2)] [1] 2 := .step h1 (by simp)
  exact cl_all (.step h2 (by simp)) h1 h2
theorem three_reach0 : three.reach [0] = [0, 1, 2] := by
  unfold A.reach
  rw [three_pairs]
  have h0 : Goes [(0, 1), (1, 2), (2, 0), (2, 2)] [0] 0 := .start (by simp)
  have h1 : Goes [(0, 1), (1, 2), (2, 0), (2, 2)] [0] 1 := .step h0 (by simp)
  exact cl_all h0 h1 (.step h1 (by simp))
theorem three_alive : three.alive = [0, 1, 2] := by
  unfold A.alive
  rw [three_back]
  have h2 : Goes [(1, 0), (2, 1), (0, 2), (2, 2)] three.final 2 := .start (by simp [three])
  have h1 : Goes [(1, 0), (2, 1), (0, 2), (2, 2)] three.final 1 := .step h2 (by simp)
  exact cl_all (.step h1 (by simp)) h1 h2
theorem three_live : three.live = [0, 1, 2] := by
  unfold A.live
  rw [three_alive]
  show List.filter _ (three.reach [0]) = _
  rw [three_reach0]
  rfl
theorem three_first {word : List UInt8} (h : IsFirst three 3 word) : word = [97] := by
  have h1 : three.takes [97] := by rw [← ends_after three_fit, three_after1]; rfl
  have h0 : ¬ three.takes [] := by rw [← ends_after three_fit, three_ends0]; simp
  have hl := (h.least [97] h1).1
  match word, h, hl with
  | [], h, _ => exact absurd h.takes h0
  | [b], h, _ =>
    have hb := (h.least [97] h1).2 rfl 0 (by simp) (by simp) rfl
    obtain ⟨r, hr, t, ht, hc⟩ := h.takes
    obtain ⟨e, he, h2, h3, _, _⟩ := hc.one rfl
    simp [three] at he
    simp at hb
    have hb2 : b.toNat < 256 := b.toNat_lt
    have hall : ∀ n : Nat, n < 97 → (sAB.has n = false ∧ sC.has n = false) := by decide
    have := hall b.toNat
    have h97 : b.toNat = 97 := by
      rcases he with rfl | rfl | rfl | rfl
      · simp at h2
      · simp at h3
        refine Classical.byContradiction fun hn => ?_
        have := (hall b.toNat (by omega)).1
        rw [this] at h3; cases h3
      · simp at h2
      · simp at h3
        refine Classical.byContradiction fun hn => ?_
        have := (hall b.toNat (by omega)).2
        rw [this] at h3; cases h3
    congr 1
    exact UInt8.toNat_inj.1 h97
  | b :: c :: r, _, hl => simp at hl
end Go.Proofs.YtakldmbbmefnbaaGreat
/- the law's own functions: few. -/
namespace Go.Proofs.YtakldmbbmefnbaaGreat
open Go.RowKit Go.Sort Go.Proofs
set_option maxRecDepth 100000
set_option maxHeartbeats 1000000

theorem Sl.take {α : Type} {enc : α → List Value} {size : Nat} {w : World} {B : Nat} {A : Option Addr} {n c : Nat} {xs : List α} (h : Sl enc size w B (.slice A n c) xs) (k c' : Nat) (hk : k ≤ xs.length) : Sl enc size w B (.slice A k c') (xs.take k) := by
  obtain ⟨A1, c1, hv, hr⟩ := h
  cases hv
  have hl : (xs.take k).length = k := by rw [List.length_take]; omega
  refine ⟨A, c', by rw [hl], fun hn => ?_⟩
  rw [hl] at hn
  obtain ⟨b, o, hA, hb, hc⟩ := hr (by omega)
  refine ⟨b, o, hA, hb, fun i x hx => hc i x ?_⟩
  rw [List.getElem?_take] at hx
  split at hx
  · exact hx
  · cases hx

theorem take_min {α : Type} {l : List α} {n k : Nat} (h : l.length = n) : l.take (min n k) = l.take k := by
  subst h
  rcases Nat.le_total l.length k with h | h
  · rw [Nat.min_eq_left h, List.take_length, List.take_of_length_le h]
  · rw [Nat.min_eq_right h]

theorem Own.any {α : Type} {enc : α → List Value} {size : Nat} {e : TypeId} {w : World} {base : Nat} {v : Value} {xs : List α} (h : Own enc size e w base v xs) : ∃ A n c, v = .slice A n c := by
  obtain ⟨A, c, h, _⟩ := h.form
  exact ⟨A, _, c, h⟩

theorem Own.set4 {α : Type} {enc : α → List Value} {size : Nat} {e : TypeId} {w : World} {base b : Nat} {v : Value} {xs : List α} (h : Own enc size e w base v xs) (hb : blk v ≠ some b) (x0 x1 x2 x3 : Value) :
    Own enc size e ((((w.setCell ⟨b, 0, none⟩ x0).setCell ⟨b, 1, none⟩ x1).setCell ⟨b, 2, none⟩ x2).setCell ⟨b, 3, none⟩ x3) base v xs :=
  (((h.setCell (p := ⟨b, 0, none⟩) hb x0).setCell (p := ⟨b, 1, none⟩) hb x1).setCell (p := ⟨b, 2, none⟩) hb x2).setCell (p := ⟨b, 3, none⟩) hb x3

/-- An automaton that can be gone through. -/
def A.few (a : A) : A := ⟨if 30 < a.states then 30 else a.states, a.start.take 12, a.final.take 12, a.edges.take 60⟩

theorem few_ok (a : A) (As Af Ae : Option Addr) (cs cf ce : Nat) (w : World) (hfa : FaAt w w.heap.size a (.slice As a.start.length cs) (.slice Af a.final.length cf) (.slice Ae a.edges.length ce))
    (h1 : a.start.length ≤ cs) (h2 : a.final.length ≤ cf) (h3 : a.edges.length ≤ ce) (h4 : cs ≤ maxLen) (h5 : cf ≤ maxLen) (h6 : ce ≤ maxLen) :
    Calls Tryz.prog 10 #[vA a (.slice As a.start.length cs) (.slice Af a.final.length cf) (.slice Ae a.edges.length ce)] w (fun r w' => (∃ vs vf ve, r = .returned (vA a.few vs vf ve) ∧ Own encI 1 3 w' w.heap.size vs a.few.start ∧ Own encI 1 3 w' w.heap.size vf a.few.final ∧ Own encE 7 73 w' w.heap.size ve a.few.edges) ∧ Below w.heap.size w w') := by
  obtain ⟨ns, hns⟩ : ∃ ns, a.start.length = ns := ⟨_, rfl⟩
  obtain ⟨nf, hnf⟩ : ∃ nf, a.final.length = nf := ⟨_, rfl⟩
  obtain ⟨ne, hne⟩ : ∃ ne, a.edges.length = ne := ⟨_, rfl⟩
  obtain ⟨W1, hW1⟩ : ∃ W1, w.alloc (.cells #[.int .i64 a.states, .slice As ns cs, .slice Af nf cf, .slice Ae ne ce] 25) = W1 := ⟨_, rfl⟩
  obtain ⟨W2, hW2⟩ : ∃ W2, W1.alloc (.cells #[.int .i64 0, .slice none 0 0, .slice none 0 0, .slice none 0 0] 25) = W2 := ⟨_, rfl⟩
  have d1 : Below w.heap.size w W1 := hW1 ▸ alloc1 w _
  have d2 : Below W1.heap.size W1 W2 := hW2 ▸ alloc1 W1 _
  have z1 : W1.heap.size = w.heap.size + 1 := by rw [← hW1]; simp
  have z2 : W2.heap.size = W1.heap.size + 1 := by rw [← hW2]; simp
  have b1 : W2.heap[w.heap.size]? = some (.cells #[.int .i64 a.states, .slice As ns cs, .slice Af nf cf, .slice Ae ne ce] 25 (0, 0)) := by
    rw [d2.block _ (by omega), ← hW1]; exact heap_alloc_new w _
  have b2 : W2.heap[W1.heap.size]? = some (.cells #[.int .i64 0, .slice none 0 0, .slice none 0 0, .slice none 0 0] 25 (0, 0)) := by rw [← hW2]; exact heap_alloc_new W1 _
  have dw := below_next d1 d2
  obtain ⟨W3, hW3⟩ : ∃ W3, W2.setCell ⟨w.heap.size, 0, none⟩ (.int .i64 30) = W3 := ⟨_, rfl⟩
  have g1 : W3.heap[w.heap.size]? = some (.cells #[.int .i64 30, .slice As ns cs, .slice Af nf cf, .slice Ae ne ce] 25 (0, 0)) := by
    rw [← hW3]; exact heap_set b1 0 _
  have g2 : W3.heap[W1.heap.size]? = some (.cells #[.int .i64 0, .slice none 0 0, .slice none 0 0, .slice none 0 0] 25 (0, 0)) := by
    rw [← hW3, Below.heap_setCell _ _ _ _ (by show W1.heap.size ≠ w.heap.size; omega)]; exact b2
  have dw3 : Below w.heap.size w W3 := by rw [← hW3]; exact dw.setCell (Nat.le_refl _) _
  have z3 : W3.heap.size = W2.heap.size := by rw [← hW3]; simp [World.setCell]
  have c0 := cell_at b1 0
  have f0 := free_at b1 0
  simp only [List.getElem?_toArray, List.getElem?_cons_zero] at c0
  unfold vA
  rw [hns, hnf, hne]
  rw [hns, hnf, hne] at hfa
  rw [hns] at h1; rw [hnf] at h2; rw [hne] at h3
  unfold maxLen at h4 h5 h6
  have hS : Ints w w.heap.size (.slice As (min ns 12) cs) (a.start.take 12) := by
    have := hfa.s.take (min ns 12) cs (by omega)
    rwa [take_min hns] at this
  have hF : Ints w w.heap.size (.slice Af (min nf 12) cf) (a.final.take 12) := by
    have := hfa.f.take (min nf 12) cf (by omega)
    rwa [take_min hnf] at this
  have hE : Edges w w.heap.size (.slice Ae (min ne 60) ce) (a.edges.take 60) := by
    have := hfa.e.take (min ne 60) ce (by omega)
    rwa [take_min hne] at this
  have m1 : min ns 12 ≤ cs := by omega
  have m2 : min nf 12 ≤ cf := by omega
  have m3 : min ne 60 ≤ ce := by omega
  have HZ := Lib.hid (And.intro z1 (And.intro z2 (And.intro z3 (And.intro hns (And.intro hnf hne)))))
  clear z1 z2 z3 hns hnf hne
  by_cases hst : 30 < a.states
  · go_enter Tryz.func10, Tryz.ntmps10
    go_wp2_with fail
    refine wp_region_local (by kernel_rfl) (fun w' => Below W3.heap.size W3 w') (fun a b => Below a.heap.size a b)
      (fun i v w' => match i with
        | 0 => v = .pointer (some ⟨w.heap.size, 0, none⟩)
        | 1 => v = .int .i64 30
        | 2 => v = .pointer (some ⟨w.heap.size, 1, none⟩)
        | 3 => v = .slice As ns cs
        | 4 => v = .pointer (some ⟨w.heap.size, 1, none⟩)
        | 5 => v = .slice As ns cs
        | 6 => v = .int .i64 (ns : Nat)
        | 7 => v = .int .i64 (min ns 12 : Nat)
        | 8 => v = .slice As (min ns 12) cs
        | 9 => Own encI 1 3 w' w.heap.size v (a.start.take 12)
        | 10 => v = .pointer (some ⟨w.heap.size, 2, none⟩)
        | 11 => v = .slice Af nf cf
        | 12 => v = .pointer (some ⟨w.heap.size, 2, none⟩)
        | 13 => v = .slice Af nf cf
        | 14 => v = .int .i64 (nf : Nat)
        | 15 => v = .int .i64 (min nf 12 : Nat)
        | 16 => v = .slice Af (min nf 12) cf
        | 17 => Own encI 1 3 w' w.heap.size v (a.final.take 12)
        | 18 => v = .pointer (some ⟨w.heap.size, 3, none⟩)
        | 19 => v = .slice Ae ne ce
        | 20 => v = .pointer (some ⟨w.heap.size, 3, none⟩)
        | 21 => v = .slice Ae ne ce
        | 22 => v = .int .i64 (ne : Nat)
        | 23 => v = .int .i64 (min ne 60 : Nat)
        | 24 => v = .slice Ae (min ne 60) ce
        | 25 => Own encE 7 73 w' w.heap.size v (a.edges.take 60)
        | 26 => ∃ v9 v17 v25, v = .agg #[.int .i64 30, v9, v17, v25] ∧ Own encI 1 3 w' w.heap.size v9 (a.start.take 12) ∧ Own encI 1 3 w' w.heap.size v17 (a.final.take 12) ∧ Own encE 7 73 w' w.heap.size v25 (a.edges.take 60)
        | _ => True)
      (fun f w' => ∃ v9 v17 v25, Own encI 1 3 w' w.heap.size v9 (a.start.take 12) ∧ Own encI 1 3 w' w.heap.size v17 (a.final.take 12) ∧ Own encE 7 73 w' w.heap.size v25 (a.edges.take 60) ∧ w'.heap[W1.heap.size]? = some (.cells #[.int .i64 30, v9, v17, v25] 25 (0, 0)) ∧ Below w.heap.size w w')
      (fun f => { tmps := #[.agg #[.int .i64 a.states, .slice As ns cs, .slice Af nf cf, .slice Ae ne ce], .pointer (some ⟨w.heap.size, 0, none⟩), .pointer (some ⟨W1.heap.size, 0, none⟩), .pointer (some ⟨w.heap.size, 0, none⟩), .int .i64 a.states, .bool true, .pointer (some ⟨w.heap.size, 0, none⟩), f 0, f 1, f 2, f 3, f 4, f 5, f 6, f 7, f 8, f 9, f 10, f 11, f 12, f 13, f 14, f 15, f 16, f 17, f 18, f 19, f 20, f 21, f 22, f 23, f 24, f 25, f 26], defers := [] })
      (by kernel_rfl) (by kernel_rfl) (by kernel_rfl) (by kernel_rfl) (fun f => by kernel_rfl) (fun f => rfl) ?hk (Below.refl _ _).drew ?hstep ?hlast ?hend
    case hk =>
      intro i v x y hxy h
      match i with
      | 26 =>
        obtain ⟨v9, v17, v25, rfl, o1, o2, o3⟩ := h
        exact ⟨v9, v17, v25, rfl, o1.below hxy, o2.below hxy, o3.below hxy⟩
      | 9 => exact Own.below h hxy
      | 17 => exact Own.below h hxy
      | 25 => exact Own.below h hxy
      | 0 | 1 | 2 | 3 | 4 | 5 | 6 | 7 | 8 | 10 | 11 | 12 | 13 | 14 | 15 | 16 | 18 | 19 | 20 | 21 | 22 | 23 | 24 => exact h
      | n + 27 => trivial
    case hstep =>
      intro f w' hR
      have hz := HZ.out
      have e1 := (hR.block _ (Array.getElem?_eq_some_iff.1 g1).1).trans g1
      have q0 := cell_at e1 0; have q1 := cell_at e1 1; have q2 := cell_at e1 2; have q3 := cell_at e1 3
      simp only [List.getElem?_toArray, List.getElem?_cons_zero, List.getElem?_cons_succ] at q0 q1 q2 q3
      have dR := below_next dw3 hR
      have zR := dR.size
      clear hz b1 b2 g1 g2 hW1 hW2 hW3 c0 f0 d1 d2 dw dw3 hfa
      refine ⟨?_, ?_, ?_, ?_, ?_, ?_, ?_, ?_, ?_, ?_, ?_, ?_, ?_, ?_, ?_, ?_, ?_, ?_, ?_, ?_, ?_, ?_, ?_, ?_, ?_, ?_, ?_, trivial⟩
      all_goals
        intro hA a1 K hK
        simp only [AfterAll, Region.binds, forall_const, and_true] at hA
      all_goals first
        | (go_simp
           exact hK _ _ hR (Below.refl _ _) rfl)
        | (go_simp
           exact hK _ _ hR (Below.refl _ _) (congrArg (Value.int IntKind.i64) (by omega)))
        | (go_simp
           refine (clone_int _ _ w' (hS.below dR zR) (by rw [List.length_take]; omega)).mono ?_
           rintro e w2 ⟨v2, rfl, ho2, d2⟩
           exact hK _ _ (below_next hR d2) d2 (ho2.lower zR))
        | (go_simp
           refine (clone_int _ _ w' (hF.below dR zR) (by rw [List.length_take]; omega)).mono ?_
           rintro e w2 ⟨v2, rfl, ho2, d2⟩
           exact hK _ _ (below_next hR d2) d2 (ho2.lower zR))
        | (go_simp
           refine (clone_edge _ _ w' (hE.below dR zR) (by rw [List.length_take]; omega)).mono ?_
           rintro e w2 ⟨v2, rfl, ho2, d2⟩
           exact hK _ _ (below_next hR d2) d2 (ho2.lower zR))
        | skip
      obtain ⟨_, o9, o17, o25⟩ := hA
      obtain ⟨A9, n9, c9, h9⟩ := o9.any
      obtain ⟨A17, n17, c17, h17⟩ := o17.any
      obtain ⟨A25, n25, c25, h25⟩ := o25.any
      have HO := Lib.hid (And.intro o9 (And.intro o17 o25))
      clear o9 o17 o25
      go_simp
      exact hK _ _ hR (Below.refl _ _) ⟨_, _, _, rfl, h9 ▸ HO.out.1, h17 ▸ HO.out.2.1, h25 ▸ HO.out.2.2⟩
    case hlast =>
      intro o ho f w' hR hP a1 K hK
      cases ho
      obtain ⟨v9, v17, v25, h26, o9, o17, o25⟩ := hP 26 (by decide)
      clear hP
      obtain ⟨A9, n9, c9, rfl⟩ := o9.any
      obtain ⟨A17, n17, c17, rfl⟩ := o17.any
      obtain ⟨A25, n25, c25, rfl⟩ := o25.any
      have e2 := (hR.block _ (Array.getElem?_eq_some_iff.1 g2).1).trans g2
      have q0 := cell_at e2 0; have q1 := cell_at e2 1; have q2 := cell_at e2 2; have q3 := cell_at e2 3
      have p0 := free_at e2 0; have p1 := free_at e2 1; have p2 := free_at e2 2; have p3 := free_at e2 3
      simp only [List.getElem?_toArray, List.getElem?_cons_zero, List.getElem?_cons_succ] at q0 q1 q2 q3
      have dR := below_next dw3 hR
      have HO := Lib.hid (And.intro o9 (And.intro o17 o25))
      have HE := Lib.hid e2
      have HD := Lib.hid dR
      clear hfa o9 o17 o25 e2 b1 b2 g1 g2 hW1 hW2 hW3 c0 f0 d1 d2 dw dw3 dR hS hF hE
      go_simp
      obtain ⟨o9, o17, o25⟩ := HO.out
      have e2 := HE.out
      have hz := HZ.out
      exact hK undef _ ⟨_, _, _, o9.set4 (own_ne o9 e2 (by decide)) _ _ _ _, o17.set4 (own_ne o17 e2 (by decide)) _ _ _ _, o25.set4 (own_ne o25 e2 (by decide)) _ _ _ _, heap_set (heap_set (heap_set (heap_set e2 0 _) 1 _) 2 _) 3 _,
        (((HD.out.setCell (show w.heap.size ≤ W1.heap.size by omega) _).setCell (show w.heap.size ≤ W1.heap.size by omega) _).setCell (show w.heap.size ≤ W1.heap.size by omega) _).setCell (show w.heap.size ≤ W1.heap.size by omega) _⟩
    case hend =>
      rintro f w' ⟨v9, v17, v25, o9, o17, o25, hb, hbel⟩
      have q0 := cell_at hb 0; have q1 := cell_at hb 1; have q2 := cell_at hb 2; have q3 := cell_at hb 3
      simp only [List.getElem?_toArray, List.getElem?_cons_zero, List.getElem?_cons_succ] at q0 q1 q2 q3
      have HO := Lib.hid (And.intro o9 (And.intro o17 (And.intro o25 hbel)))
      clear hfa o9 o17 o25 hb b1 b2 g1 g2 hW1 hW2 hW3 c0 f0 d1 d2 dw dw3 hS hF hE hbel
      go_wp2
      obtain ⟨o9, o17, o25, hbel⟩ := HO.out
      have hst2 : (if 30 < a.states then 30 else a.states) = 30 := by split <;> omega
      refine ⟨rfl, vA a.few v9 v17 v25, ?_, ⟨_, _, _, rfl, o9, o17, o25⟩, hbel⟩
      simp [results, Tryz.results10, go_sem, q0, q1, q2, q3, vA, A.few, hst2]
  · go_enter Tryz.func10, Tryz.ntmps10
    go_wp2_with fail
    refine wp_region_local (by kernel_rfl) (fun w' => Below W2.heap.size W2 w') (fun a b => Below a.heap.size a b)
      (fun i v w' => match i with
        | 0 => v = .pointer (some ⟨w.heap.size, 0, none⟩)
        | 1 => v = .int .i64 a.states
        | 2 => v = .pointer (some ⟨w.heap.size, 1, none⟩)
        | 3 => v = .slice As ns cs
        | 4 => v = .pointer (some ⟨w.heap.size, 1, none⟩)
        | 5 => v = .slice As ns cs
        | 6 => v = .int .i64 (ns : Nat)
        | 7 => v = .int .i64 (min ns 12 : Nat)
        | 8 => v = .slice As (min ns 12) cs
        | 9 => Own encI 1 3 w' w.heap.size v (a.start.take 12)
        | 10 => v = .pointer (some ⟨w.heap.size, 2, none⟩)
        | 11 => v = .slice Af nf cf
        | 12 => v = .pointer (some ⟨w.heap.size, 2, none⟩)
        | 13 => v = .slice Af nf cf
        | 14 => v = .int .i64 (nf : Nat)
        | 15 => v = .int .i64 (min nf 12 : Nat)
        | 16 => v = .slice Af (min nf 12) cf
        | 17 => Own encI 1 3 w' w.heap.size v (a.final.take 12)
        | 18 => v = .pointer (some ⟨w.heap.size, 3, none⟩)
        | 19 => v = .slice Ae ne ce
        | 20 => v = .pointer (some ⟨w.heap.size, 3, none⟩)
        | 21 => v = .slice Ae ne ce
        | 22 => v = .int .i64 (ne : Nat)
        | 23 => v = .int .i64 (min ne 60 : Nat)
        | 24 => v = .slice Ae (min ne 60) ce
        | 25 => Own encE 7 73 w' w.heap.size v (a.edges.take 60)
        | 26 => ∃ v9 v17 v25, v = .agg #[.int .i64 a.states, v9, v17, v25] ∧ Own encI 1 3 w' w.heap.size v9 (a.start.take 12) ∧ Own encI 1 3 w' w.heap.size v17 (a.final.take 12) ∧ Own encE 7 73 w' w.heap.size v25 (a.edges.take 60)
        | _ => True)
      (fun f w' => ∃ v9 v17 v25, Own encI 1 3 w' w.heap.size v9 (a.start.take 12) ∧ Own encI 1 3 w' w.heap.size v17 (a.final.take 12) ∧ Own encE 7 73 w' w.heap.size v25 (a.edges.take 60) ∧ w'.heap[W1.heap.size]? = some (.cells #[.int .i64 a.states, v9, v17, v25] 25 (0, 0)) ∧ Below w.heap.size w w')
      (fun f => { tmps := #[.agg #[.int .i64 a.states, .slice As ns cs, .slice Af nf cf, .slice Ae ne ce], .pointer (some ⟨w.heap.size, 0, none⟩), .pointer (some ⟨W1.heap.size, 0, none⟩), .pointer (some ⟨w.heap.size, 0, none⟩), .int .i64 a.states, .bool false, undef, f 0, f 1, f 2, f 3, f 4, f 5, f 6, f 7, f 8, f 9, f 10, f 11, f 12, f 13, f 14, f 15, f 16, f 17, f 18, f 19, f 20, f 21, f 22, f 23, f 24, f 25, f 26], defers := [] })
      (by kernel_rfl) (by kernel_rfl) (by kernel_rfl) (by kernel_rfl) (fun f => by kernel_rfl) (fun f => rfl) ?hk (Below.refl _ _).drew ?hstep ?hlast ?hend
    case hk =>
      intro i v x y hxy h
      match i with
      | 26 =>
        obtain ⟨v9, v17, v25, rfl, o1, o2, o3⟩ := h
        exact ⟨v9, v17, v25, rfl, o1.below hxy, o2.below hxy, o3.below hxy⟩
      | 9 => exact Own.below h hxy
      | 17 => exact Own.below h hxy
      | 25 => exact Own.below h hxy
      | 0 | 1 | 2 | 3 | 4 | 5 | 6 | 7 | 8 | 10 | 11 | 12 | 13 | 14 | 15 | 16 | 18 | 19 | 20 | 21 | 22 | 23 | 24 => exact h
      | n + 27 => trivial
    case hstep =>
      intro f w' hR
      have hz := HZ.out
      have e1 := (hR.block _ (Array.getElem?_eq_some_iff.1 b1).1).trans b1
      have q0 := cell_at e1 0; have q1 := cell_at e1 1; have q2 := cell_at e1 2; have q3 := cell_at e1 3
      simp only [List.getElem?_toArray, List.getElem?_cons_zero, List.getElem?_cons_succ] at q0 q1 q2 q3
      have dR := below_next dw hR
      have zR := dR.size
      clear hz b1 b2 g1 g2 hW1 hW2 hW3 c0 f0 d1 d2 dw dw3 hfa
      refine ⟨?_, ?_, ?_, ?_, ?_, ?_, ?_, ?_, ?_, ?_, ?_, ?_, ?_, ?_, ?_, ?_, ?_, ?_, ?_, ?_, ?_, ?_, ?_, ?_, ?_, ?_, ?_, trivial⟩
      all_goals
        intro hA a1 K hK
        simp only [AfterAll, Region.binds, forall_const, and_true] at hA
      all_goals first
        | (go_simp
           exact hK _ _ hR (Below.refl _ _) rfl)
        | (go_simp
           exact hK _ _ hR (Below.refl _ _) (congrArg (Value.int IntKind.i64) (by omega)))
        | (go_simp
           refine (clone_int _ _ w' (hS.below dR zR) (by rw [List.length_take]; omega)).mono ?_
           rintro e w2 ⟨v2, rfl, ho2, d2⟩
           exact hK _ _ (below_next hR d2) d2 (ho2.lower zR))
        | (go_simp
           refine (clone_int _ _ w' (hF.below dR zR) (by rw [List.length_take]; omega)).mono ?_
           rintro e w2 ⟨v2, rfl, ho2, d2⟩
           exact hK _ _ (below_next hR d2) d2 (ho2.lower zR))
        | (go_simp
           refine (clone_edge _ _ w' (hE.below dR zR) (by rw [List.length_take]; omega)).mono ?_
           rintro e w2 ⟨v2, rfl, ho2, d2⟩
           exact hK _ _ (below_next hR d2) d2 (ho2.lower zR))
        | skip
      obtain ⟨_, o9, o17, o25⟩ := hA
      obtain ⟨A9, n9, c9, h9⟩ := o9.any
      obtain ⟨A17, n17, c17, h17⟩ := o17.any
      obtain ⟨A25, n25, c25, h25⟩ := o25.any
      have HO := Lib.hid (And.intro o9 (And.intro o17 o25))
      clear o9 o17 o25
      go_simp
      exact hK _ _ hR (Below.refl _ _) ⟨_, _, _, rfl, h9 ▸ HO.out.1, h17 ▸ HO.out.2.1, h25 ▸ HO.out.2.2⟩
    case hlast =>
      intro o ho f w' hR hP a1 K hK
      cases ho
      obtain ⟨v9, v17, v25, h26, o9, o17, o25⟩ := hP 26 (by decide)
      clear hP
      obtain ⟨A9, n9, c9, rfl⟩ := o9.any
      obtain ⟨A17, n17, c17, rfl⟩ := o17.any
      obtain ⟨A25, n25, c25, rfl⟩ := o25.any
      have e2 := (hR.block _ (Array.getElem?_eq_some_iff.1 b2).1).trans b2
      have q0 := cell_at e2 0; have q1 := cell_at e2 1; have q2 := cell_at e2 2; have q3 := cell_at e2 3
      have p0 := free_at e2 0; have p1 := free_at e2 1; have p2 := free_at e2 2; have p3 := free_at e2 3
      simp only [List.getElem?_toArray, List.getElem?_cons_zero, List.getElem?_cons_succ] at q0 q1 q2 q3
      have dR := below_next dw hR
      have HO := Lib.hid (And.intro o9 (And.intro o17 o25))
      have HE := Lib.hid e2
      have HD := Lib.hid dR
      clear hfa o9 o17 o25 e2 b1 b2 g1 g2 hW1 hW2 hW3 c0 f0 d1 d2 dw dw3 dR hS hF hE
      go_simp
      obtain ⟨o9, o17, o25⟩ := HO.out
      have e2 := HE.out
      have hz := HZ.out
      exact hK undef _ ⟨_, _, _, o9.set4 (own_ne o9 e2 (by decide)) _ _ _ _, o17.set4 (own_ne o17 e2 (by decide)) _ _ _ _, o25.set4 (own_ne o25 e2 (by decide)) _ _ _ _, heap_set (heap_set (heap_set (heap_set e2 0 _) 1 _) 2 _) 3 _,
        (((HD.out.setCell (show w.heap.size ≤ W1.heap.size by omega) _).setCell (show w.heap.size ≤ W1.heap.size by omega) _).setCell (show w.heap.size ≤ W1.heap.size by omega) _).setCell (show w.heap.size ≤ W1.heap.size by omega) _⟩
    case hend =>
      rintro f w' ⟨v9, v17, v25, o9, o17, o25, hb, hbel⟩
      have q0 := cell_at hb 0; have q1 := cell_at hb 1; have q2 := cell_at hb 2; have q3 := cell_at hb 3
      simp only [List.getElem?_toArray, List.getElem?_cons_zero, List.getElem?_cons_succ] at q0 q1 q2 q3
      have HO := Lib.hid (And.intro o9 (And.intro o17 (And.intro o25 hbel)))
      clear hfa o9 o17 o25 hb b1 b2 g1 g2 hW1 hW2 hW3 c0 f0 d1 d2 dw dw3 hS hF hE hbel
      go_wp2
      obtain ⟨o9, o17, o25, hbel⟩ := HO.out
      have hst2 : (if 30 < a.states then 30 else a.states) = a.states := by split <;> omega
      refine ⟨rfl, vA a.few v9 v17 v25, ?_, ⟨_, _, _, rfl, o9, o17, o25⟩, hbel⟩
      simp [results, Tryz.results10, go_sem, q0, q1, q2, q3, vA, A.few, hst2]
end Go.Proofs.YtakldmbbmefnbaaGreat
/- the law's own functions: wakes. -/
namespace Go.Proofs.YtakldmbbmefnbaaGreat
open Go.RowKit Go.Sort Go.Proofs
set_option maxRecDepth 100000
set_option maxHeartbeats 1000000

theorem three_small : Small three := ⟨by simp [three], by simp [three], by simp [three], by simp [three]⟩

/-- What has been got so far, each of all three states, still lies there. -/
structure Alls (w0 w : World) (vs : List Value) : Prop where
  b : Below w0.heap.size w0 w
  s : ∀ v ∈ vs, Ints w w.heap.size v [0, 1, 2]
theorem Alls.next {w0 w w' : World} {vs : List Value} (h : Alls w0 w vs) (d : Below w.heap.size w w') : Alls w0 w' vs :=
  ⟨below_next h.b d, fun v hv => (h.s v hv).below d d.size⟩
theorem Alls.add {w0 w : World} {vs : List Value} (h : Alls w0 w vs) {v : Value} (hv : Ints w w.heap.size v [0, 1, 2]) : Alls w0 w (v :: vs) :=
  ⟨h.b, fun u hu => by
    rcases List.mem_cons.1 hu with rfl | hu
    · exact hv
    · exact h.s u hu⟩

/-- Three states and no error. -/
def AllEnd (w' : World) (r : Ending) : Prop := ∃ A n c, r = .returned (.tuple #[.slice A n c, .int .i64 0]) ∧ Ints w' w'.heap.size (.slice A n c) [0, 1, 2]
theorem allEnd_of {w w' : World} {r : Ending} (h : IntsEnd w w' r (.ok [0, 1, 2])) : AllEnd w' r := by
  obtain ⟨v, rfl, ho⟩ := h
  have hs := ho.sl encI_len
  obtain ⟨A, n, c, rfl⟩ := ho.any
  exact ⟨A, n, c, rfl, hs⟩
theorem one_new (W : World) (n : Int) : Ints (W.alloc (.cells #[.int .i64 n] 3)) (W.heap.size + 1) (.slice (some ⟨W.heap.size, 0, none⟩) 1 1) [n] := Sl_one (enc := encI) (size := 1) W n _ _

theorem wk_closure (vs vf ve : Value) (W : World) (h : FaAt W W.heap.size three vs vf ve) :
    Calls Tryz.prog 17 #[vA three vs vf ve, .slice (some ⟨W.heap.size, 0, none⟩) 1 1] (W.alloc (.cells #[.int .i64 2] 3)) (fun r w' => AllEnd w' r ∧ Below (W.alloc (.cells #[.int .i64 2] 3)).heap.size (W.alloc (.cells #[.int .i64 2] 3)) w') := by
  refine (Closure_ok three vs vf ve _ [2] _ (h.below (alloc1 W _) (alloc1 W _).size) three_small (by simpa using one_new W 2) (by decide)).mono ?_
  rintro r w' ⟨h, hb⟩
  rw [if_pos three_ok'] at h
  unfold A.doClosure at h
  rw [if_pos (by decide), three_clo (by simp)] at h
  exact ⟨allEnd_of h, hb⟩
theorem wk_step (vs vf ve : Value) (W : World) (h : FaAt W W.heap.size three vs vf ve) :
    Calls Tryz.prog 23 #[vA three vs vf ve, .int .u8 97, .slice (some ⟨W.heap.size, 0, none⟩) 1 1] (W.alloc (.cells #[.int .i64 0] 3)) (fun r w' => AllEnd w' r ∧ Below (W.alloc (.cells #[.int .i64 0] 3)).heap.size (W.alloc (.cells #[.int .i64 0] 3)) w') := by
  refine (Step_ok three vs vf ve _ [0] 97 (by decide) _ (h.below (alloc1 W _) (alloc1 W _).size) three_small (by simpa using one_new W 0) (by decide)).mono ?_
  rintro r w' ⟨h, hb⟩
  rw [if_pos three_ok'] at h
  unfold A.doStep at h
  rw [if_pos (by decide), three_step0] at h
  exact ⟨allEnd_of h, hb⟩
theorem wk_reach (vs vf ve : Value) (W : World) (h : FaAt W W.heap.size three vs vf ve) :
    Calls Tryz.prog 18 #[vA three vs vf ve, .slice (some ⟨W.heap.size, 0, none⟩) 1 1] (W.alloc (.cells #[.int .i64 1] 3)) (fun r w' => AllEnd w' r ∧ Below (W.alloc (.cells #[.int .i64 1] 3)).heap.size (W.alloc (.cells #[.int .i64 1] 3)) w') := by
  refine (Reach_ok three vs vf ve _ [1] _ (h.below (alloc1 W _) (alloc1 W _).size) three_small (by simpa using one_new W 1) (by decide)).mono ?_
  rintro r w' ⟨h, hb⟩
  rw [if_pos three_ok'] at h
  unfold A.doReach at h
  rw [if_pos (by decide), three_reach1] at h
  exact ⟨allEnd_of h, hb⟩
theorem wk_live (vs vf ve : Value) (W : World) (h : FaAt W W.heap.size three vs vf ve) :
    Calls Tryz.prog 20 #[vA three vs vf ve] W (fun r w' => AllEnd w' r ∧ Below W.heap.size W w') := by
  refine (Live_ok three vs vf ve W h three_small).mono ?_
  rintro r w' ⟨h, hb⟩
  rw [if_pos three_ok', three_live] at h
  exact ⟨allEnd_of h, hb⟩
theorem wk_out (vs vf ve : Value) (W : World) (h : FaAt W W.heap.size three vs vf ve) :
    Calls Tryz.prog 17 #[vA three vs vf ve, .slice (some ⟨W.heap.size, 0, none⟩) 1 1] (W.alloc (.cells #[.int .i64 3] 3)) (fun r w' => r = .returned (.tuple #[.slice none 0 0, .int .i64 2]) ∧ Below (W.alloc (.cells #[.int .i64 3] 3)).heap.size (W.alloc (.cells #[.int .i64 3] 3)) w') := by
  refine (Closure_ok three vs vf ve _ [3] _ (h.below (alloc1 W _) (alloc1 W _).size) three_small (by simpa using one_new W 3) (by decide)).mono ?_
  rintro r w' ⟨h, hb⟩
  rw [if_pos three_ok'] at h
  unfold A.doClosure at h
  rw [if_neg (by decide)] at h
  exact ⟨h, hb⟩
theorem wk_takes (vs vf ve : Value) (W : World) (h : FaAt W W.heap.size three vs vf ve) :
    Calls Tryz.prog 26 #[vA three vs vf ve, .string ⟨#[97, 99, 98]⟩] W (fun r w' => r = .returned (.tuple #[.bool true, .int .i64 0]) ∧ Below W.heap.size W w') := by
  refine (Takes_ok three vs vf ve [97, 99, 98] W h three_small (by decide)).mono ?_
  rintro r w' ⟨h, hb⟩
  unfold TakesEnd at h
  rw [if_pos three_ok', three_ends3] at h
  exact ⟨h, hb⟩
theorem wk_takes_no (vs vf ve : Value) (W : World) (h : FaAt W W.heap.size three vs vf ve) :
    Calls Tryz.prog 26 #[vA three vs vf ve, .string ⟨#[]⟩] W (fun r w' => r = .returned (.tuple #[.bool false, .int .i64 0]) ∧ Below W.heap.size W w') := by
  refine (Takes_ok three vs vf ve [] W h three_small (by decide)).mono ?_
  rintro r w' ⟨h, hb⟩
  unfold TakesEnd at h
  rw [if_pos three_ok', three_ends0] at h
  exact ⟨h, hb⟩
theorem wk_first (vs vf ve : Value) (W : World) (h : FaAt W W.heap.size three vs vf ve) :
    Calls Tryz.prog 31 #[vA three vs vf ve] W (fun r w' => r = .returned (.tuple #[.string ⟨#[97]⟩, .int .i64 0]) ∧ Below W.heap.size W w') := by
  refine (First_ok three vs vf ve W h three_small).mono ?_
  rintro r w' ⟨h, hb⟩
  refine ⟨?_, hb⟩
  rcases h with ⟨h, _⟩ | ⟨_, ⟨word, rfl, h⟩ | ⟨_, h⟩⟩
  · rw [three_ok'] at h; cases h
  · rw [three_first h]
  · refine absurd ?_ (h [97])
    rw [← ends_after three_fit, three_after1]; rfl
theorem wk_bad (W : World) :
    Calls Tryz.prog 26 #[.agg #[.int .i64 0, .slice (some ⟨W.heap.size, 0, none⟩) 1 1, .slice none 0 0, .slice none 0 0], .string ⟨#[]⟩] (W.alloc (.cells #[.int .i64 0] 3)) (fun r w' => r = .returned (.tuple #[.bool false, .int .i64 260]) ∧ Below (W.alloc (.cells #[.int .i64 0] 3)).heap.size (W.alloc (.cells #[.int .i64 0] 3)) w') := by
  refine (Takes_ok ⟨0, [0], [], []⟩ _ _ _ [] _ ⟨by simpa using one_new W 0, Sl.nil none 0, Sl.nil none 0⟩ ⟨by simp, ⟨by simp, by simp, by simp⟩⟩ (by decide)).mono ?_
  rintro r w' ⟨h, hb⟩
  exact ⟨h, hb⟩
theorem wk_none (W : World) :
    Calls Tryz.prog 31 #[.agg #[.int .i64 1, .slice (some ⟨W.heap.size, 0, none⟩) 1 1, .slice none 0 0, .slice none 0 0]] (W.alloc (.cells #[.int .i64 0] 3)) (fun r w' => r = .returned (.tuple #[.string ⟨#[]⟩, .int .i64 4]) ∧ Below (W.alloc (.cells #[.int .i64 0] 3)).heap.size (W.alloc (.cells #[.int .i64 0] 3)) w') := by
  refine (First_ok ⟨1, [0], [], []⟩ _ _ _ _ ⟨by simpa using one_new W 0, Sl.nil none 0, Sl.nil none 0⟩ ⟨by simp, by simp, by simp, by simp⟩).mono ?_
  rintro r w' ⟨h, hb⟩
  refine ⟨?_, hb⟩
  rcases h with ⟨h, _⟩ | ⟨_, ⟨word, rfl, h⟩ | ⟨h, _⟩⟩
  · exact absurd h (by decide)
  · obtain ⟨_, _, t, ht, _⟩ := h.takes
    cases ht
  · exact h

theorem all_eq (v v' : Value) (W : World) (h : Ints W W.heap.size v [0, 1, 2]) (h' : Ints W W.heap.size v' [0, 1, 2]) :
    Calls Tryz.prog 21 #[v, v'] W (fun r w' => r = .returned (.bool true) ∧ Below W.heap.size W w') := by
  refine (equal_int v v' _ _ W h h' (by decide) (by decide)).mono ?_
  rintro r w' ⟨rfl, hb⟩
  exact ⟨rfl, hb⟩
theorem new_three (W : World) : Ints (W.alloc (.cells #[.int .i64 0, .int .i64 1, .int .i64 2] 3)) (W.alloc (.cells #[.int .i64 0, .int .i64 1, .int .i64 2] 3)).heap.size (.slice (some ⟨W.heap.size, 0, none⟩) 3 3) [0, 1, 2] := by
  have o : Own encI 1 3 (W.alloc (.cells #[.int .i64 0, .int .i64 1, .int .i64 2] 3)) 0 (.slice (some ⟨W.heap.size, 0, none⟩) 3 3) [0, 1, 2] := .inr ⟨_, 3, _, rfl, Nat.zero_le _, by decide, by decide, by decide, heap_alloc_new W _, by decide, rfl⟩
  exact o.sl encI_len

theorem wakes_ok (w : World) :
    Calls Tryz.prog 9 #[] w (fun r w' => r = .returned (.bool true) ∧ Below w.heap.size w w') := by
  have h0 : Alls w w [] := ⟨Below.refl _ _, by simp⟩
  go_enter Tryz.func9, Tryz.ntmps9
  go_wp2_with fail
  refine (three_ok _).mono ?_
  rintro e w1 ⟨⟨vs, vf, ve, rfl, hfa⟩, d1⟩
  replace h0 := h0.next d1
  clear d1
  go_wp2_with fail
  refine (wk_closure vs vf ve w1 hfa).mono ?_
  rintro e w2 ⟨⟨A1, n1, c1, rfl, hs⟩, d2⟩
  replace h0 := ((h0.next (alloc1 w1 _)).next d2).add hs
  clear d2 hs hfa
  go_wp2_with fail
  refine (three_ok _).mono ?_
  rintro e w3 ⟨⟨vs, vf, ve, rfl, hfa⟩, d1⟩
  replace h0 := h0.next d1
  clear d1
  go_wp2_with fail
  refine (wk_step vs vf ve w3 hfa).mono ?_
  rintro e w4 ⟨⟨A2, n2, c2, rfl, hs⟩, d2⟩
  replace h0 := ((h0.next (alloc1 w3 _)).next d2).add hs
  clear d2 hs hfa
  go_wp2_with fail
  refine (three_ok _).mono ?_
  rintro e w5 ⟨⟨vs, vf, ve, rfl, hfa⟩, d1⟩
  replace h0 := h0.next d1
  clear d1
  go_wp2_with fail
  refine (wk_takes vs vf ve w5 hfa).mono ?_
  rintro e w6 ⟨rfl, d2⟩
  replace h0 := h0.next d2
  clear d2 hfa
  go_wp2_with fail
  refine (three_ok _).mono ?_
  rintro e w7 ⟨⟨vs, vf, ve, rfl, hfa⟩, d1⟩
  replace h0 := h0.next d1
  clear d1
  go_wp2_with fail
  refine (wk_takes_no vs vf ve w7 hfa).mono ?_
  rintro e w8 ⟨rfl, d2⟩
  replace h0 := h0.next d2
  clear d2 hfa
  go_wp2_with fail
  refine (three_ok _).mono ?_
  rintro e w9 ⟨⟨vs, vf, ve, rfl, hfa⟩, d1⟩
  replace h0 := h0.next d1
  clear d1
  go_wp2_with fail
  refine (wk_first vs vf ve w9 hfa).mono ?_
  rintro e w10 ⟨rfl, d2⟩
  replace h0 := h0.next d2
  clear d2 hfa
  go_wp2_with fail
  refine (three_ok _).mono ?_
  rintro e w11 ⟨⟨vs, vf, ve, rfl, hfa⟩, d1⟩
  replace h0 := h0.next d1
  clear d1
  go_wp2_with fail
  refine (wk_live vs vf ve w11 hfa).mono ?_
  rintro e w12 ⟨⟨A3, n3, c3, rfl, hs⟩, d2⟩
  replace h0 := (h0.next d2).add hs
  clear d2 hs hfa
  go_wp2_with fail
  refine (three_ok _).mono ?_
  rintro e w13 ⟨⟨vs, vf, ve, rfl, hfa⟩, d1⟩
  replace h0 := h0.next d1
  clear d1
  go_wp2_with fail
  refine (wk_reach vs vf ve w13 hfa).mono ?_
  rintro e w14 ⟨⟨A4, n4, c4, rfl, hs⟩, d2⟩
  replace h0 := ((h0.next (alloc1 w13 _)).next d2).add hs
  clear d2 hs hfa
  go_wp2_with fail
  refine (three_ok _).mono ?_
  rintro e w15 ⟨⟨vs, vf, ve, rfl, hfa⟩, d1⟩
  replace h0 := h0.next d1
  clear d1
  go_wp2_with fail
  refine (wk_out vs vf ve w15 hfa).mono ?_
  rintro e w16 ⟨rfl, d2⟩
  replace h0 := (h0.next (alloc1 w15 _)).next d2
  clear d2 hfa
  go_wp2_with fail
  refine (wk_bad w16).mono ?_
  rintro e w17 ⟨rfl, d2⟩
  replace h0 := (h0.next (alloc1 w16 _)).next d2
  clear d2
  go_wp2_with fail
  refine (wk_none w17).mono ?_
  rintro e w18 ⟨rfl, d2⟩
  replace h0 := (h0.next (alloc1 w17 _)).next d2
  clear d2
  replace h0 := (h0.next (alloc1 w18 _)).add (new_three w18)
  go_wp2_with fail
  refine (all_eq _ _ _ (h0.s _ (by simp)) (h0.s _ (by simp))).mono ?_
  rintro e w19 ⟨rfl, d2⟩
  replace h0 := h0.next d2
  clear d2
  go_wp2_with fail
  refine (all_eq _ _ _ (h0.s _ (by simp)) (h0.s _ (by simp))).mono ?_
  rintro e w20 ⟨rfl, d2⟩
  replace h0 := h0.next d2
  clear d2
  go_wp2_with fail
  refine (all_eq _ _ _ (h0.s _ (by simp)) (h0.s _ (by simp))).mono ?_
  rintro e w21 ⟨rfl, d2⟩
  replace h0 := h0.next d2
  clear d2
  go_wp2_with fail
  refine (all_eq _ _ _ (h0.s _ (by simp)) (h0.s _ (by simp))).mono ?_
  rintro e w22 ⟨rfl, d2⟩
  replace h0 := h0.next d2
  clear d2
  go_wp2_with fail
  go_ret
  exact ⟨rfl, h0.b⟩
end Go.Proofs.YtakldmbbmefnbaaGreat
/- What the package walk hands back, case by case; an automaton in its own block. -/
namespace Go.Proofs.YtakldmbbmefnbaaGreat
open Go.RowKit Go.Sort Go.Proofs
set_option maxRecDepth 100000
set_option maxHeartbeats 1000000

theorem A.few_small (a : A) : Small a.few := by
  refine ⟨?_, ?_, ?_, ?_⟩
  · show (if 30 < a.states then (30 : Int) else a.states) ≤ 1000
    split <;> omega
  · show (a.start.take 12).length ≤ _; rw [List.length_take]; omega
  · show (a.final.take 12).length ≤ _; rw [List.length_take]; omega
  · show (a.edges.take 60).length ≤ _; rw [List.length_take]; omega

theorem first_some (a : A) (vs vf ve : Value) (w : World) (hfa : FaAt w w.heap.size a vs vf ve) (hs : Small a) (hok : a.ok = true) (hw : ∃ w, a.takes w) :
    Calls Tryz.prog 31 #[vA a vs vf ve] w (fun r w' => (∃ word, r = .returned (.tuple #[encStr word, .int .i64 0]) ∧ IsFirst a a.states.toNat word) ∧ Below w.heap.size w w') := by
  refine (First_ok a vs vf ve w hfa hs).mono ?_
  rintro r w' ⟨h, hb⟩
  refine ⟨?_, hb⟩
  rcases h with ⟨h, _⟩ | ⟨_, h | ⟨_, h⟩⟩
  · rw [hok] at h; cases h
  · exact h
  · obtain ⟨x, hx⟩ := hw
    exact absurd hx (h x)
theorem first_none (a : A) (vs vf ve : Value) (w : World) (hfa : FaAt w w.heap.size a vs vf ve) (hs : Small a) (hok : a.ok = true) (hw : ¬ ∃ w, a.takes w) :
    Calls Tryz.prog 31 #[vA a vs vf ve] w (fun r w' => r = .returned (.tuple #[.string ⟨#[]⟩, .int .i64 4]) ∧ Below w.heap.size w w') := by
  refine (First_ok a vs vf ve w hfa hs).mono ?_
  rintro r w' ⟨h, hb⟩
  refine ⟨?_, hb⟩
  rcases h with ⟨h, _⟩ | ⟨_, ⟨x, _, h⟩ | ⟨h, _⟩⟩
  · rw [hok] at h; cases h
  · exact absurd ⟨x, h.takes⟩ hw
  · exact h
theorem first_bad (a : A) (vs vf ve : Value) (w : World) (hfa : FaAt w w.heap.size a vs vf ve) (hs : Small a) (hok : a.ok = false) :
    Calls Tryz.prog 31 #[vA a vs vf ve] w (fun r w' => r = .returned (.tuple #[.string ⟨#[]⟩, .int .i64 260]) ∧ Below w.heap.size w w') := by
  refine (First_ok a vs vf ve w hfa hs).mono ?_
  rintro r w' ⟨h, hb⟩
  refine ⟨?_, hb⟩
  rcases h with ⟨_, h⟩ | ⟨h, _⟩
  · exact h
  · rw [hok] at h; cases h

/-- Numbers and no error. -/
def GotInts (w' : World) (r : Ending) (l : List Int) : Prop := ∃ A c, r = .returned (.tuple #[.slice A l.length c, .int .i64 0]) ∧ Ints w' w'.heap.size (.slice A l.length c) l
theorem gotInts_of {w w' : World} {r : Ending} {l : List Int} (h : IntsEnd w w' r (.ok l)) : GotInts w' r l := by
  obtain ⟨v, rfl, ho⟩ := h
  have hs := ho.sl encI_len
  obtain ⟨A, c, rfl, _⟩ := ho.form
  exact ⟨A, c, rfl, hs⟩
theorem live_got (a : A) (vs vf ve : Value) (w : World) (hfa : FaAt w w.heap.size a vs vf ve) (hs : Small a) (hok : a.ok = true) :
    Calls Tryz.prog 20 #[vA a vs vf ve] w (fun r w' => GotInts w' r a.live ∧ Below w.heap.size w w') := by
  refine (Live_ok a vs vf ve w hfa hs).mono ?_
  rintro r w' ⟨h, hb⟩
  rw [if_pos hok] at h
  exact ⟨gotInts_of h, hb⟩
theorem alive_got (a : A) (vs vf ve : Value) (w : World) (hfa : FaAt w w.heap.size a vs vf ve) (hs : Small a) (hok : a.ok = true) :
    Calls Tryz.prog 19 #[vA a vs vf ve] w (fun r w' => GotInts w' r a.alive ∧ Below w.heap.size w w') := by
  refine (Alive_ok a vs vf ve w hfa hs).mono ?_
  rintro r w' ⟨h, hb⟩
  rw [if_pos hok] at h
  exact ⟨gotInts_of h, hb⟩
theorem live_bad (a : A) (vs vf ve : Value) (w : World) (hfa : FaAt w w.heap.size a vs vf ve) (hs : Small a) (hok : a.ok = false) :
    Calls Tryz.prog 20 #[vA a vs vf ve] w (fun r w' => r = .returned (.tuple #[.slice none 0 0, .int .i64 260]) ∧ Below w.heap.size w w') := by
  refine (Live_ok a vs vf ve w hfa hs).mono ?_
  rintro r w' ⟨h, hb⟩
  rw [if_neg (by rw [hok]; decide)] at h
  exact ⟨h, hb⟩
theorem alive_bad (a : A) (vs vf ve : Value) (w : World) (hfa : FaAt w w.heap.size a vs vf ve) (hs : Small a) (hok : a.ok = false) :
    Calls Tryz.prog 19 #[vA a vs vf ve] w (fun r w' => r = .returned (.tuple #[.slice none 0 0, .int .i64 260]) ∧ Below w.heap.size w w') := by
  refine (Alive_ok a vs vf ve w hfa hs).mono ?_
  rintro r w' ⟨h, hb⟩
  rw [if_neg (by rw [hok]; decide)] at h
  exact ⟨h, hb⟩
theorem takes_got (a : A) (vs vf ve : Value) (word : List UInt8) (w : World) (hfa : FaAt w w.heap.size a vs vf ve) (hs : Small a) (hok : a.ok = true) (hwl : word.length ≤ 1000000) :
    Calls Tryz.prog 26 #[vA a vs vf ve, encStr word] w (fun r w' => r = .returned (.tuple #[.bool (a.ends (a.after word)), .int .i64 0]) ∧ Below w.heap.size w w') := by
  refine (Takes_ok a vs vf ve word w hfa hs hwl).mono ?_
  rintro r w' ⟨h, hb⟩
  unfold TakesEnd at h
  rw [if_pos hok] at h
  exact ⟨h, hb⟩

theorem four {w : World} {b : Nat} {x0 x1 x2 x3 : Value} {t : TypeId} (h : w.heap[b]? = some (.cells #[x0, x1, x2, x3] t (0, 0))) : w.cell? ⟨b, 0, none⟩ = some x0 ∧ w.cell? ⟨b, 1, none⟩ = some x1 ∧ w.cell? ⟨b, 2, none⟩ = some x2 ∧ w.cell? ⟨b, 3, none⟩ = some x3 :=
  ⟨cell_at h 0, cell_at h 1, cell_at h 2, cell_at h 3⟩
theorem keepb {w w' : World} {b : Nat} {o : Obj} (h : w.heap[b]? = some o) (d : Below w.heap.size w w') : w'.heap[b]? = some o := (d.block _ (Array.getElem?_eq_some_iff.1 h).1).trans h
/-- An automaton in its own block, with its slices. -/
structure In5 (w : World) (b : Nat) (a : A) (vs vf ve : Value) : Prop where
  h : w.heap[b]? = some (.cells #[.int .i64 a.states, vs, vf, ve] 25 (0, 0))
  fa : FaAt w w.heap.size a vs vf ve
theorem In5.next {w w' : World} {b : Nat} {a : A} {vs vf ve : Value} (h : In5 w b a vs vf ve) (d : Below w.heap.size w w') : In5 w' b a vs vf ve := ⟨keepb h.h d, h.fa.below d d.size⟩
theorem in5_new (w : World) (a : A) (vs vf ve : Value) {base : Nat} (o1 : Own encI 1 3 w base vs a.start) (o2 : Own encI 1 3 w base vf a.final) (o3 : Own encE 7 73 w base ve a.edges) :
    In5 (w.alloc (.cells #[.int .i64 a.states, vs, vf, ve] 25)) w.heap.size a vs vf ve :=
  ⟨heap_alloc_new w _, ⟨(o1.sl encI_len).below (alloc1 w _) (alloc1 w _).size, (o2.sl encI_len).below (alloc1 w _) (alloc1 w _).size, (o3.sl encE_len).below (alloc1 w _) (alloc1 w _).size⟩⟩

/-- Rows of numbers that lie in one block, each of its own. -/
structure RowsAt (w : World) (b : Nat) (ls : List (List Int)) : Prop where
  lt : b < w.heap.size
  at_ : ∀ k (h : k < ls.length), ∃ A n c, w.cell? ⟨b, k, none⟩ = some (.slice A n c) ∧ Ints w w.heap.size (.slice A n c) ls[k]
theorem RowsAt.next {w w' : World} {b : Nat} {ls : List (List Int)} (h : RowsAt w b ls) (d : Below w.heap.size w w') : RowsAt w' b ls :=
  ⟨Nat.lt_of_lt_of_le h.lt d.size, fun k hk => by
    obtain ⟨A, n, c, h1, h2⟩ := h.at_ k hk
    exact ⟨A, n, c, (d.cell (p := ⟨b, k, none⟩) h.lt).trans h1, h2.below d d.size⟩⟩
def TraceGot (w' : World) (r : Ending) (n : Nat) (ls : List (List Int)) : Prop := ∃ b c, r = .returned (.tuple #[.slice (some ⟨b, 0, none⟩) (n + 1) c, .int .i64 0]) ∧ RowsAt w' b ls
theorem trace_got (a : A) (vs vf ve : Value) (word : List UInt8) (w : World) (hfa : FaAt w w.heap.size a vs vf ve) (hs : Small a) (hok : a.ok = true) (hwl : word.length ≤ 1000000) :
    Calls Tryz.prog 25 #[vA a vs vf ve, encStr word] w (fun r w' => TraceGot w' r word.length (a.trace word word.length) ∧ Below w.heap.size w w') := by
  refine (Trace_ok a vs vf ve word w hfa hs hwl).mono ?_
  rintro r w' ⟨h, hb⟩
  unfold TraceEnd at h
  rw [if_pos hok] at h
  obtain ⟨v, rs, rfl, ho, hr⟩ := h
  have hl := a.trace_len word word.length
  have hrl := hr.1
  obtain ⟨b, c, rfl, _, hcell⟩ := ho.at_R (by omega)
  refine ⟨⟨b, c, by rw [hrl, hl], World.block_lt_of_cell? _ _ (hcell 0 (by omega)), fun k hk => ?_⟩, hb⟩
  exact ⟨_, _, _, hcell k (by omega), (hr.2 k (by omega) hk).sl encI_len⟩
theorem trace_bad (a : A) (vs vf ve : Value) (word : List UInt8) (w : World) (hfa : FaAt w w.heap.size a vs vf ve) (hs : Small a) (hok : a.ok = false) (hwl : word.length ≤ 1000000) :
    Calls Tryz.prog 25 #[vA a vs vf ve, encStr word] w (fun r w' => r = .returned (.tuple #[.slice none 0 0, .int .i64 260]) ∧ Below w.heap.size w w') := by
  refine (Trace_ok a vs vf ve word w hfa hs hwl).mono ?_
  rintro r w' ⟨h, hb⟩
  unfold TraceEnd at h
  rw [if_neg (by rw [hok]; decide)] at h
  exact ⟨h, hb⟩
theorem reach_got (a : A) (vs vf ve vl : Value) (l : List Int) (w : World) (hfa : FaAt w w.heap.size a vs vf ve) (hs : Small a) (hok : a.ok = true) (hl : Ints w w.heap.size vl l) (hll : l.length ≤ 1000000) (hin : l.all (inB a.states) = true) :
    Calls Tryz.prog 18 #[vA a vs vf ve, vl] w (fun r w' => GotInts w' r (a.reach l) ∧ Below w.heap.size w w') := by
  refine (Reach_ok a vs vf ve vl l w hfa hs hl hll).mono ?_
  rintro r w' ⟨h, hb⟩
  rw [if_pos hok] at h
  unfold A.doReach at h
  rw [if_pos hin] at h
  exact ⟨gotInts_of h, hb⟩
theorem step_got (a : A) (vs vf ve vl : Value) (l : List Int) (b : Nat) (hb : b < 256) (w : World) (hfa : FaAt w w.heap.size a vs vf ve) (hs : Small a) (hok : a.ok = true) (hl : Ints w w.heap.size vl l) (hll : l.length ≤ 1000000) (hin : l.all (inB a.states) = true) :
    Calls Tryz.prog 23 #[vA a vs vf ve, .int .u8 b, vl] w (fun r w' => GotInts w' r (a.step l b) ∧ Below w.heap.size w w') := by
  refine (Step_ok a vs vf ve vl l b hb w hfa hs hl hll).mono ?_
  rintro r w' ⟨h, hb⟩
  rw [if_pos hok] at h
  unfold A.doStep at h
  rw [if_pos hin] at h
  exact ⟨gotInts_of h, hb⟩
theorem same_eq (v v' : Value) (l l' : List Int) (W : World) (h : Ints W W.heap.size v l) (h' : Ints W W.heap.size v' l') (hn : l.length ≤ 1000000) (he : l = l') :
    Calls Tryz.prog 21 #[v, v'] W (fun r w' => r = .returned (.bool true) ∧ Below W.heap.size W w') := by
  subst he
  refine (equal_int v v' _ _ W h h' hn hn).mono ?_
  rintro r w' ⟨rfl, hb⟩
  exact ⟨by simp, hb⟩

theorem drewN_next (w : World) (n : Nat) : Below w.heap.size w (w.drewN n) := below_drewN (Below.refl _ w) n

theorem closure_got (a : A) (vs vf ve vl : Value) (l : List Int) (w : World) (hfa : FaAt w w.heap.size a vs vf ve) (hs : Small a) (hok : a.ok = true) (hl : Ints w w.heap.size vl l) (hll : l.length ≤ 1000000) (hin : l.all (inB a.states) = true) :
    Calls Tryz.prog 17 #[vA a vs vf ve, vl] w (fun r w' => GotInts w' r (a.clo l) ∧ Below w.heap.size w w') := by
  refine (Closure_ok a vs vf ve vl l w hfa hs hl hll).mono ?_
  rintro r w' ⟨h, hb⟩
  rw [if_pos hok] at h
  unfold A.doClosure at h
  rw [if_pos hin] at h
  exact ⟨gotInts_of h, hb⟩
/-- By which error one is turned away. -/
def A.whyNot (a : A) (l : List Int) : Int := if a.ok = true then (if l.all (inB a.states) = true then 0 else 2) else 260
/-- Nothing, and an error. -/
abbrev GotErr (r : Ending) (e : Int) : Prop := r = .returned (.tuple #[.slice none 0 0, .int .i64 e])
theorem closure_err (a : A) (vs vf ve vl : Value) (l : List Int) (e : Int) (w : World) (hfa : FaAt w w.heap.size a vs vf ve) (hs : Small a) (hl : Ints w w.heap.size vl l) (hll : l.length ≤ 1000000) (he : a.whyNot l = e) (h0 : e ≠ 0) :
    Calls Tryz.prog 17 #[vA a vs vf ve, vl] w (fun r w' => GotErr r e ∧ Below w.heap.size w w') := by
  refine (Closure_ok a vs vf ve vl l w hfa hs hl hll).mono ?_
  rintro r w' ⟨h, hb⟩
  refine ⟨?_, hb⟩
  subst he
  unfold A.whyNot at *
  unfold A.doClosure at h
  cases h1 : a.ok <;> cases h2 : l.all (inB a.states) <;> simp_all [GotErr] <;> exact h
theorem reach_err (a : A) (vs vf ve vl : Value) (l : List Int) (e : Int) (w : World) (hfa : FaAt w w.heap.size a vs vf ve) (hs : Small a) (hl : Ints w w.heap.size vl l) (hll : l.length ≤ 1000000) (he : a.whyNot l = e) (h0 : e ≠ 0) :
    Calls Tryz.prog 18 #[vA a vs vf ve, vl] w (fun r w' => GotErr r e ∧ Below w.heap.size w w') := by
  refine (Reach_ok a vs vf ve vl l w hfa hs hl hll).mono ?_
  rintro r w' ⟨h, hb⟩
  refine ⟨?_, hb⟩
  subst he
  unfold A.whyNot at *
  unfold A.doReach at h
  cases h1 : a.ok <;> cases h2 : l.all (inB a.states) <;> simp_all [GotErr] <;> exact h
theorem step_err (a : A) (vs vf ve vl : Value) (l : List Int) (b : Nat) (hb : b < 256) (e : Int) (w : World) (hfa : FaAt w w.heap.size a vs vf ve) (hs : Small a) (hl : Ints w w.heap.size vl l) (hll : l.length ≤ 1000000) (he : a.whyNot l = e) (h0 : e ≠ 0) :
    Calls Tryz.prog 23 #[vA a vs vf ve, .int .u8 b, vl] w (fun r w' => GotErr r e ∧ Below w.heap.size w w') := by
  refine (Step_ok a vs vf ve vl l b hb w hfa hs hl hll).mono ?_
  rintro r w' ⟨h, hb⟩
  refine ⟨?_, hb⟩
  subst he
  unfold A.whyNot at *
  unfold A.doStep at h
  cases h1 : a.ok <;> cases h2 : l.all (inB a.states) <;> simp_all [GotErr] <;> exact h
end Go.Proofs.YtakldmbbmefnbaaGreat
/- the reference's words: Trace. -/
namespace Go.Proofs.YtakldmbbmefnbaaGreat
open Go.RowKit Go.Sort Go.Proofs
set_option maxRecDepth 100000
set_option maxHeartbeats 4000000

theorem wrap_small (n : Nat) (h : n < 256) : IntKind.i64.wrap (n : Int) = n := by
  rw [IntKind.wrap_i64]
  omega
theorem sl_one_at {α : Type} {enc : α → List Value} {size : Nat} {W : World} {b : Nat} {x : α} {t : TypeId} (h : W.heap[b]? = some (.cells (enc x).toArray t (0, 0))) (c : Nat) : Sl enc size W W.heap.size (.slice (some ⟨b, 0, none⟩) 1 c) [x] := by
  refine ⟨_, c, rfl, fun _ => ⟨b, 0, rfl, (Array.getElem?_eq_some_iff.1 h).1, fun i y hy j u hu => ?_⟩⟩
  have hi := (List.getElem?_eq_some_iff.1 hy).1
  simp at hi; subst hi
  simp at hy; subst hy
  rw [cell_at h]
  simpa using hu

theorem rtrace_ok (a : A) (vs vf ve : Value) (word : List UInt8) (w : World) (hfa : FaAt w w.heap.size a vs vf ve) (ha : Fit a) (hw : word.length ≤ 1000000) :
    Calls Tryz.prog 28 #[vA a vs vf ve, encStr word] w (fun r w' => (∃ b c, r = .returned (.slice (some ⟨b, 0, none⟩) (word.length + 1) c) ∧ RowsAt w' b (a.trace word word.length)) ∧ Below w.heap.size w w') := by
  obtain ⟨i0, hi, hz0, hz1, hz2⟩ := info_parts info_ro
  obtain ⟨As, cs, rfl, _⟩ := id hfa.s
  obtain ⟨Af, cf, rfl, _⟩ := id hfa.f
  obtain ⟨Ae, ce, rfl, _⟩ := id hfa.e
  obtain ⟨W1, hW1⟩ : ∃ W1, w.alloc (.cells #[.int .i64 a.states, .slice As a.start.length cs, .slice Af a.final.length cf, .slice Ae a.edges.length ce] 25) = W1 := ⟨_, rfl⟩
  have d1 : Below w.heap.size w W1 := hW1 ▸ alloc1 w _
  have b1 : W1.heap[w.heap.size]? = some (.cells #[.int .i64 a.states, .slice As a.start.length cs, .slice Af a.final.length cf, .slice Ae a.edges.length ce] 25 (0, 0)) := by rw [← hW1]; exact heap_alloc_new w _
  have hlt1 : w.heap.size < W1.heap.size := by rw [← hW1]; simp
  obtain ⟨q0, q1, q2, q3⟩ := four b1
  have kc := rclosure_ok a (.slice As a.start.length cs) (.slice Af a.final.length cf) (.slice Ae a.edges.length ce) _ a.start W1 (hfa.below d1 d1.size) ha (hfa.s.below d1 d1.size) (inb_start ha) ha.s
  have ks := fun W (d : Below W1.heap.size W1 W) vl l b (hb : b < 256) (hl : Ints W W.heap.size vl l) (hin : Inb a l) (hll : l.length ≤ 1000000) => rstep_ok a (.slice As a.start.length cs) (.slice Af a.final.length cf) (.slice Ae a.edges.length ce) vl l b hb W ((hfa.below d1 d1.size).below d d.size) ha hl hin hll
  have hz1' := d1.size
  unfold vA at kc ks ⊢
  have KS := Lib.hid ks
  clear ks b1 hfa
  go_enter Tryz.func28, Tryz.ntmps28
  go_wp2_with fail
  refine kc.mono ?_
  rintro e W2 ⟨v1, rfl, ho1, d2⟩
  obtain ⟨A1, c1, rfl, hle1⟩ := ho1.form
  obtain ⟨W3, hW3⟩ : ∃ W3, W2.alloc (.cells #[.slice A1 (a.clo a.start).length c1] 22) = W3 := ⟨_, rfl⟩
  have d3 : Below W2.heap.size W2 W3 := hW3 ▸ alloc1 W2 _
  have o0 : Own encR 1 22 W3 W1.heap.size (.slice (some ⟨W2.heap.size, 0, none⟩) 1 1) [(A1, (a.clo a.start).length, c1)] := by
    refine .inr ⟨W2.heap.size, 1, _, rfl, d2.size, by decide, by simp, by decide, by rw [← hW3]; exact heap_alloc_new W2 _, by simp, rfl⟩
  have r0 : Rws W3 W1.heap.size [(A1, (a.clo a.start).length, c1)] (a.trace word 0) := by
    rw [A.trace_zero]
    exact (Rws.nil _ _).add (rs := []) (ls := []) (ho1.below d3)
  have dw3 := below_next d2 d3
  clear d2 d3 ho1 kc
  generalize a.clo a.start = st0 at *
  go_wp2_with fail
  clear hW3 hW1
  go_loopw [14, 5] (fun i v wr => ∃ (k : Nat) (rs : List Ro) (bo co : Nat), k ≤ word.length ∧ i = .int .i64 k ∧ v = .slice (some ⟨bo, 0, none⟩) (k + 1) co ∧ Own encR 1 22 wr W1.heap.size (.slice (some ⟨bo, 0, none⟩) (k + 1) co) rs ∧ Rws wr W1.heap.size rs (a.trace word k) ∧ Below W1.heap.size W1 wr) (fun i _ _ => word.length - (intOf i).toNat)
  case atStart => exact ⟨0, _, _, _, Nat.zero_le _, rfl, rfl, o0, r0, dw3⟩
  case round =>
    obtain ⟨k, rs, bo, co, hkl, rfl, rfl, hv, hrs, hB⟩ := hrel
    clear o0 r0 dw3
    have hlen : rs.length = k + 1 := by rw [hrs.1, A.trace_len]
    by_cases hlt : k < word.length
    · obtain ⟨bo', co', hvv, hblk, hcells⟩ := hv.at_R (by omega)
      rw [hlen] at hvv
      cases hvv
      have hlast := hrs.2 k (by omega) (by rw [A.trace_len]; omega)
      rw [A.trace_get] at hlast
      have hcell := hcells k (by omega)
      obtain ⟨hin, hln⟩ := A.after_in ha (word.take k)
      have hin2 : Inb a (a.after (word.take k)) := after_inb ha _
      obtain ⟨A5, c5, hr5, hle5⟩ := hlast.form
      obtain ⟨⟨ra, rn, rc⟩, hrk⟩ : ∃ r, rs[k] = r := ⟨_, rfl⟩
      rw [hrk] at hcell hr5 hlast
      simp only [vR] at hcell hr5 hlast
      injection hr5 with h51 h52 h53
      have hnx := A.trace_succ a word k hlt
      have hu : word[k].toNat < 256 := word[k].toNat_lt
      have hbw : word[k]? = some word[k] := List.getElem?_eq_getElem hlt
      subst h51; subst h52; subst h53
      generalize a.after (word.take k) = cur at *
      have hst := fun W d vl hl => KS.out W d vl cur word[k].toNat hu hl hin2 (by omega)
      generalize a.step cur word[k].toNat = nxt at *
      have hbyt : (4 * (rs.length + 1) + 4096) * 24 ≤ 140737488355328 := by rw [hlen]; omega
      have hwl2 : rs.length + 1 ≤ 4611686018427387904 := by rw [hlen]; omega
      have hi1 : (k : Int) < word.length := by omega
      have hbs := hB.size
      have hbo := World.block_lt_of_cell? _ _ hcell
      simp only at hbo
      have HX := Lib.hid (And.intro hrs (And.intro hnx (And.intro hlen (And.intro hbyt hwl2))))
      have HS := Lib.hid hst
      clear hrs hnx hcells hst hin hin2 hln hrk hlen hbyt hwl2
      have hkk1 : (k : Int) < (k : Int) + 1 := by omega
      go_wp2_with fail
      refine wp_region_auto 12 (by kernel_rfl) (fun w' => Below wr.heap.size wr w') (fun a b => Below a.heap.size a b)
        (fun i v w' => match i with
          | 0 => v = .slice (some ⟨bo, 0, none⟩) (k + 1) co
          | 1 => v = .agg #[.int .i64 a.states, .slice As a.start.length cs, .slice Af a.final.length cf, .slice Ae a.edges.length ce]
          | 2 => v = encStr word
          | 3 => v = .int .i64 (k : Nat)
          | 4 => v = .int .u8 word[k].toNat
          | 5 => v = .int .i64 word[k].toNat
          | 6 => v = .slice (some ⟨bo, 0, none⟩) (k + 1) co
          | 7 => v = .int .i64 (k : Nat)
          | 8 => v = .pointer (some ⟨bo, k, none⟩)
          | 9 => v = .slice ra cur.length rc
          | 10 => ∃ A c, v = .slice A nxt.length c ∧ Own encI 1 3 w' wr.heap.size (.slice A nxt.length c) nxt
          | 11 => ∃ bb A c, v = .slice (some ⟨bb, 0, none⟩) 1 1 ∧ w'.heap[bb]? = some (.cells #[.slice A nxt.length c] 22 (0, 0)) ∧ Own encI 1 3 w' wr.heap.size (.slice A nxt.length c) nxt
          | _ => True)
        ?fin1 ?hfin1 (by decide) (by kernel_rfl) (by kernel_rfl) (by kernel_rfl) ?hk1 (Below.refl _ _).drew ?hstep1 ?htail1
      case hfin1 =>
        intro f
        simp only [List.take_succ_cons, List.take_zero, putF, List.setIfInBounds_toArray, List.set_cons_zero, List.set_cons_succ]
        exact rfl
      case hk1 =>
        intro i v x y hxy h
        match i with
        | 0 | 1 | 2 | 3 | 4 | 5 | 6 | 7 | 8 | 9 => exact h
        | 10 => obtain ⟨A, c, h1, h2⟩ := h; exact ⟨A, c, h1, h2.below hxy⟩
        | 11 => obtain ⟨bb, A, c, h1, h2, h3⟩ := h; exact ⟨bb, A, c, h1, keepb h2 hxy, h3.below hxy⟩
        | n + 12 => trivial
      case hstep1 =>
        intro f w'' hR
        have hdw : Below W1.heap.size W1 w'' := below_next hB hR
        have p0 := (hdw.cell (p := ⟨w.heap.size, 0, none⟩) hlt1).trans q0
        have p1 := (hdw.cell (p := ⟨w.heap.size, 1, none⟩) hlt1).trans q1
        have p2 := (hdw.cell (p := ⟨w.heap.size, 2, none⟩) hlt1).trans q2
        have p3 := (hdw.cell (p := ⟨w.heap.size, 3, none⟩) hlt1).trans q3
        have pc := (hR.cell (p := ⟨bo, k, none⟩) hbo).trans hcell
        refine ⟨?_, ?_, ?_, ?_, ?_, ?_, ?_, ?_, ?_, ?_, ?_, ?_, trivial⟩
        all_goals
          intro hA a1 K hK
          simp only [AfterAll, Region.binds, forall_const, and_true] at hA
        · go_simp
          exact hK _ _ hR (Below.refl _ _) rfl
        · go_simp
          exact hK _ _ hR (Below.refl _ _) rfl
        · go_simp
          exact hK _ _ hR (Below.refl _ _) rfl
        · go_simp
          exact hK _ _ hR (Below.refl _ _) rfl
        · obtain ⟨h2, h3⟩ := hA
          go_simp
          exact hK _ _ hR (Below.refl _ _) rfl
        · go_simp
          exact hK _ _ hR (Below.refl _ _) (congrArg (Value.int IntKind.i64) (wrap_small _ (by omega)))
        · go_simp
          exact hK _ _ hR (Below.refl _ _) rfl
        · go_simp
          exact hK _ _ hR (Below.refl _ _) rfl
        · go_simp
          exact hK _ _ hR (Below.refl _ _) rfl
        · go_simp
          exact hK _ _ hR (Below.refl _ _) rfl
        · obtain ⟨h1, h5, h9⟩ := hA
          go_simp
          refine (HS.out w'' hdw _ ((hlast.below hR).sl encI_len)).mono ?_
          rintro e w2 ⟨v2, rfl, ho2, d2⟩
          obtain ⟨A2, c2, rfl, _⟩ := ho2.form
          exact hK _ _ (below_next hR d2) d2 ⟨A2, c2, rfl, ho2.lower hR.size⟩
        · obtain ⟨A2, c2, h2, ho2⟩ := hA
          go_simp
          exact hK _ _ (below_next hR (alloc1 w'' _)) (alloc1 w'' _) ⟨w''.heap.size, A2, c2, rfl, heap_alloc_new w'' _, ho2.below (alloc1 w'' _)⟩
      case htail1 =>
        intro f w'' hR hP
        have x0 : f 0 = _ := hP 0 (by decide)
        obtain ⟨bb, A2, c2, x11, hbb, ho2⟩ := hP 11 (by decide)
        rw [x0, x11]
        clear hP x0 x11
        have hsl : Sl encR 1 w'' w''.heap.size (.slice (some ⟨bb, 0, none⟩) 1 1) [(A2, nxt.length, c2)] := sl_one_at (enc := encR) (size := 1) hbb 1
        simp only [List.drop_succ_cons, List.drop_zero]
        go_loud (refine wpList_append_my _ rfl (.tmp 17) (.tmp 28) 45 rfl encR_len encR_one 22 i0 _ Tryz.underlying45 hi hz0 hz1 hz2 rfl (by decide) (base := W1.heap.size) rfl (xs := rs) (hv.below hR) rfl (ys := [(A2, nxt.length, c2)]) hsl HX.out.2.2.2.1 HX.out.2.2.2.2 (Nat.le_trans hbs hR.size) ?_)
        intro v3 w3 ho3 hg3 hb3 hl3
        obtain ⟨A3, c3, rfl, hle3⟩ := ho3.form
        obtain ⟨b3, c3', hv3, _, _⟩ := ho3.at_R (by simp)
        cases hv3
        have hlen3 : (rs ++ [(A2, nxt.length, c2)]).length = k + 2 := by rw [List.length_append, HX.out.2.2.1]; rfl
        have HN := Lib.hid hlen3
        clear hlen3
        rw [HN.out]
        go_wp2_with fail
        go_roundw
        case rel =>
          have hvA := hv.below hR
          refine ⟨k + 1, rs ++ [(A2, nxt.length, c2)], b3, c3, by omega, by go_num, rfl, by rw [HN.out] at ho3; exact ho3, ?_, (hB.trans (hR.mono hbs)).trans hl3⟩
          rw [HX.out.2.1]
          refine Rws.grown ?_ hg3 (own_row hvA)
          exact (HX.out.1.below hR).add (ho2.lower hbs)
        case measure => simp [intOf]; omega
    · have hkk : k = word.length := by omega
      subst hkk
      obtain ⟨bo', co', hvv, _, hcells⟩ := hv.at_R (by omega)
      rw [hlen] at hvv
      cases hvv
      have hR : RowsAt wr bo (a.trace word word.length) := by
        refine ⟨World.block_lt_of_cell? _ _ (hcells 0 (by omega)), fun j hj => ?_⟩
        have hj2 : j < rs.length := by rw [hrs.1]; exact hj
        exact ⟨_, _, _, hcells j hj2, (hrs.2 j hj2 hj).sl encI_len⟩
      have HX := Lib.hid hR
      clear hrs hcells hv hR hlen
      go_wp2
      go_ret
      exact ⟨⟨_, _, rfl, HX.out⟩, below_next d1 hB⟩
end Go.Proofs.YtakldmbbmefnbaaGreat
/- the reference's words: ends, Takes. -/
namespace Go.Proofs.YtakldmbbmefnbaaGreat
open Go.RowKit Go.Sort Go.Proofs
set_option maxRecDepth 100000
set_option maxHeartbeats 4000000

theorem rends_ok (a : A) (vs vf ve vl : Value) (l : List Int) (w : World) (hfa : FaAt w w.heap.size a vs vf ve) (hs : Short a) (hl : Ints w w.heap.size vl l) (hll : l.length ≤ 1000000) :
    Calls Tryz.prog 84 #[vA a vs vf ve, vl] w (fun r w' => r = .returned (.bool (a.ends l)) ∧ Below w.heap.size w w') := by
  obtain ⟨As, cs, rfl, _⟩ := id hfa.s
  obtain ⟨Af, cf, rfl, _⟩ := id hfa.f
  obtain ⟨Ae, ce, rfl, _⟩ := id hfa.e
  obtain ⟨A0, c0, rfl, hr⟩ := id hl
  obtain ⟨W1, hW1⟩ : ∃ W1, w.alloc (.cells #[.int .i64 a.states, .slice As a.start.length cs, .slice Af a.final.length cf, .slice Ae a.edges.length ce] 25) = W1 := ⟨_, rfl⟩
  have d1 : Below w.heap.size w W1 := hW1 ▸ alloc1 w _
  have b1 : W1.heap[w.heap.size]? = some (.cells #[.int .i64 a.states, .slice As a.start.length cs, .slice Af a.final.length cf, .slice Ae a.edges.length ce] 25 (0, 0)) := by rw [← hW1]; exact heap_alloc_new w _
  have q2 : W1.cell? ⟨w.heap.size, 2, none⟩ = some (.slice Af a.final.length cf) := cell_at b1 2
  have hhas := fun y => rhas_ok _ a.final y W1 (hfa.f.below d1 d1.size) hs.f
  unfold vA
  have HH := Lib.hid hhas
  clear hhas b1 hfa hl
  go_enter Tryz.func84, Tryz.ntmps84
  go_wp2
  go_loopw [9] (fun i wr => ∃ k : Nat, k ≤ l.length ∧ i = .int .i64 k ∧ a.ends (l.take k) = false ∧ wr = W1) (fun i _ => l.length - (intOf i).toNat)
  case atStart => exact ⟨0, Nat.zero_le _, rfl, rfl, rfl⟩
  case round =>
    obtain ⟨k, hk, rfl, hno, rfl⟩ := hrel
    by_cases hlt : k < l.length
    · obtain ⟨b0, o0, rfl, hb0, hc0⟩ := hr (by omega)
      have hcell := (d1.cell (p := ⟨b0, o0 + k, none⟩) hb0).trans (cell1 encI_eq hc0 hlt)
      have hi2 : (k : Int) < l.length := by omega
      have htk : a.ends (l.take (k + 1)) = (a.ends (l.take k) || a.final.any (fun x => l[k] == x)) := by
        unfold A.ends
        rw [List.take_succ_eq_append_getElem hlt, List.any_append]
        simp
      have hh := HH.out l[k]
      cases hp : a.final.any (fun x => l[k] == x) with
      | true =>
        rw [hp] at hh
        have hres : a.ends l = true := List.any_eq_true.2 ⟨l[k], List.getElem_mem hlt, hp⟩
        have HR := Lib.hid hres
        clear hres hno hr hc0 htk hp
        generalize l[k] = s at *
        go_wp2_with fail
        refine hh.mono ?_
        rintro e w3 ⟨rfl, rfl⟩
        go_wp2_with fail
        go_ret
        exact ⟨by rw [HR.out]; rfl, d1⟩
      | false =>
        rw [hp] at hh
        rw [hno, hp] at htk
        have HN := Lib.hid htk
        clear htk hno hr hc0 hp
        generalize l[k] = s at *
        go_wp2_with fail
        refine hh.mono ?_
        rintro e w3 ⟨rfl, rfl⟩
        go_wp2_with fail
        go_roundw
        case rel => exact ⟨k + 1, by omega, by go_num, HN.out, by first | rfl | trivial⟩
        case measure => simp [intOf]; omega
    · have : k = l.length := by omega
      subst this
      rw [List.take_length] at hno
      have HR := Lib.hid hno
      clear hno hr
      go_wp2_with fail
      go_ret
      exact ⟨by rw [HR.out]; rfl, d1⟩
theorem rtakes_ok (a : A) (vs vf ve : Value) (word : List UInt8) (w : World) (hfa : FaAt w w.heap.size a vs vf ve) (ha : Fit a) (hw : word.length ≤ 1000000) :
    Calls Tryz.prog 30 #[vA a vs vf ve, encStr word] w (fun r w' => r = .returned (.bool (a.ends (a.after word))) ∧ Below w.heap.size w w') := by
  obtain ⟨As, cs, rfl, _⟩ := id hfa.s
  obtain ⟨Af, cf, rfl, _⟩ := id hfa.f
  obtain ⟨Ae, ce, rfl, _⟩ := id hfa.e
  obtain ⟨W1, hW1⟩ : ∃ W1, w.alloc (.cells #[.int .i64 a.states, .slice As a.start.length cs, .slice Af a.final.length cf, .slice Ae a.edges.length ce] 25) = W1 := ⟨_, rfl⟩
  have d1 : Below w.heap.size w W1 := hW1 ▸ alloc1 w _
  have b1 : W1.heap[w.heap.size]? = some (.cells #[.int .i64 a.states, .slice As a.start.length cs, .slice Af a.final.length cf, .slice Ae a.edges.length ce] 25 (0, 0)) := by rw [← hW1]; exact heap_alloc_new w _
  obtain ⟨_, hln⟩ := A.after_in ha word
  have kt := fun W (d : Below W1.heap.size W1 W) => rtrace_ok a (.slice As a.start.length cs) (.slice Af a.final.length cf) (.slice Ae a.edges.length ce) word W ((hfa.below d1 d1.size).below d d.size) ha hw
  have ke := fun W (d : Below W1.heap.size W1 W) vl hl => rends_ok a (.slice As a.start.length cs) (.slice Af a.final.length cf) (.slice Ae a.edges.length ce) vl (a.after word) W ((hfa.below d1 d1.size).below d d.size) ⟨ha.s, ha.f, ha.e⟩ hl (by omega)
  unfold vA at kt ke ⊢
  have hlen := a.trace_len word word.length
  have hgt : ∀ h, (a.trace word word.length)[word.length]'h = a.after word := fun h => by rw [A.trace_get, List.take_length]
  have HG := Lib.hid (And.intro hlen hgt)
  have KT := Lib.hid kt
  have KE := Lib.hid ke
  clear kt ke hfa hlen hgt
  have hkk1 : (word.length : Int) < (word.length : Int) + 1 := by omega
  generalize a.after word = cur at *
  generalize a.trace word word.length = tr at *
  go_enter Tryz.func30, Tryz.ntmps30
  go_wp2_with fail
  refine wp_region_auto 9 (by kernel_rfl) (fun w' => Below W1.heap.size W1 w') (fun a b => Below a.heap.size a b)
    (fun i v w' => match i with
      | 0 => v = .agg #[.int .i64 a.states, .slice As a.start.length cs, .slice Af a.final.length cf, .slice Ae a.edges.length ce]
      | 1 => v = .agg #[.int .i64 a.states, .slice As a.start.length cs, .slice Af a.final.length cf, .slice Ae a.edges.length ce]
      | 2 => v = encStr word
      | 3 => ∃ b c, v = .slice (some ⟨b, 0, none⟩) (word.length + 1) c ∧ RowsAt w' b tr
      | 4 => v = encStr word
      | 5 => v = .int .i64 (word.length : Nat)
      | 6 => ∃ b, v = .pointer (some ⟨b, word.length, none⟩) ∧ RowsAt w' b tr
      | 7 => ∃ A c, v = .slice A cur.length c ∧ Ints w' w'.heap.size (.slice A cur.length c) cur
      | 8 => v = .bool (a.ends cur)
      | _ => True)
    ?fin1 ?hfin1 (by decide) (by kernel_rfl) (by kernel_rfl) (by kernel_rfl) ?hk1 (hW1 ▸ (Below.refl _ _).drew) ?hstep1 ?htail1
  case hfin1 =>
    intro f
    simp only [List.take_succ_cons, List.take_zero, putF, List.setIfInBounds_toArray, List.set_cons_zero, List.set_cons_succ]
    exact rfl
  case hk1 =>
    intro i v x y hxy h
    match i with
    | 0 | 1 | 2 | 4 | 5 | 8 => exact h
    | 3 => obtain ⟨b, c, h1, h2⟩ := h; exact ⟨b, c, h1, h2.next hxy⟩
    | 6 => obtain ⟨b, h1, h2⟩ := h; exact ⟨b, h1, h2.next hxy⟩
    | 7 => obtain ⟨A, c, h1, h2⟩ := h; exact ⟨A, c, h1, h2.below hxy hxy.size⟩
    | n + 9 => trivial
  case hstep1 =>
    intro f w'' hR
    obtain ⟨p0, p1, p2, p3⟩ := four (keepb b1 hR)
    refine ⟨?_, ?_, ?_, ?_, ?_, ?_, ?_, ?_, ?_, trivial⟩
    all_goals
      intro hA a1 K hK
      simp only [AfterAll, Region.binds, forall_const, and_true] at hA
    · go_simp
      exact hK _ _ hR (Below.refl _ _) rfl
    · go_simp
      exact hK _ _ hR (Below.refl _ _) rfl
    · go_simp
      exact hK _ _ hR (Below.refl _ _) rfl
    · obtain ⟨h1, h2⟩ := hA
      go_simp
      refine (KT.out w'' hR).mono ?_
      rintro e w2 ⟨⟨b, c, rfl, hr⟩, d2⟩
      exact hK _ _ (below_next hR d2) d2 ⟨b, c, rfl, hr⟩
    · go_simp
      exact hK _ _ hR (Below.refl _ _) rfl
    · go_simp
      exact hK _ _ hR (Below.refl _ _) rfl
    · obtain ⟨⟨b, c, h3, hr⟩, h5⟩ := hA
      go_simp
      exact hK _ _ hR (Below.refl _ _) ⟨b, rfl, hr⟩
    · obtain ⟨b, h6, hr⟩ := hA
      obtain ⟨A, n, c, hc, hs⟩ := hr.at_ word.length (by rw [HG.out.1]; omega)
      rw [HG.out.2] at hs
      obtain ⟨A', c', hv, _⟩ := id hs
      cases hv
      go_simp
      exact hK _ _ hR (Below.refl _ _) ⟨_, _, rfl, hs⟩
    · obtain ⟨h0, ⟨A, c, h7, hs⟩, _⟩ := hA
      go_simp
      refine (KE.out w'' hR _ hs).mono ?_
      rintro e w2 ⟨rfl, d2⟩
      exact hK _ _ (below_next hR d2) d2 rfl
  case htail1 =>
    intro f w'' hR hP
    have x8 : f 8 = _ := hP 8 (by decide)
    rw [x8]
    clear hP x8
    go_wp2_with fail
    go_ret
    exact ⟨rfl, below_next d1 hR⟩
end Go.Proofs.YtakldmbbmefnbaaGreat
/- the reference's words: marks that are copied; free. -/
namespace Go.Proofs.YtakldmbbmefnbaaGreat
open Go.RowKit Go.Sort Go.Proofs
set_option maxRecDepth 100000
set_option maxHeartbeats 20000000

/-- A block that begins with marks. -/
def BPre (w : World) (b : Nat) (m : List Bool) : Prop := ∃ cur, w.heap[b]? = some (.cells cur 4 (0, 0)) ∧ m.length ≤ cur.size ∧ ∀ i, i < m.length → cur[i]? = some (.bool (m.getD i false))
theorem BPre.cell {w : World} {b : Nat} {m : List Bool} (h : BPre w b m) (i : Nat) (hi : i < m.length) : w.cell? ⟨b, i, none⟩ = some (.bool (m.getD i false)) := by
  obtain ⟨cur, hg, _, hc⟩ := h
  rw [cell_at hg]; exact hc i hi
theorem BPre.free {w : World} {b : Nat} {m : List Bool} (h : BPre w b m) (i : Nat) : w.frozen? ⟨b, i, none⟩ = false := by
  obtain ⟨cur, hg, _, _⟩ := h
  exact free_at hg i
theorem BPre.set {w : World} {b : Nat} {m : List Bool} (h : BPre w b m) (i : Nat) (x : Bool) : BPre (w.setCell ⟨b, i, none⟩ (.bool x)) b (m.set i x) := by
  obtain ⟨cur, hg, hl, hc⟩ := h
  refine ⟨_, heap_set hg i (.bool x), by simpa using hl, fun j hj => ?_⟩
  rw [List.length_set] at hj
  by_cases e : i = j
  · subst e
    rw [Array.getElem?_setIfInBounds_self_of_lt (by omega)]
    simp [List.getD, hj]
  · rw [Array.getElem?_setIfInBounds_ne e, hc j hj]
    simp [List.getD, List.getElem?_set_ne e]
theorem BPre.below {w w' : World} {b : Nat} {m : List Bool} (h : BPre w b m) (d : Below w.heap.size w w') : BPre w' b m := by
  obtain ⟨cur, hg, hl, hc⟩ := h
  exact ⟨cur, keepb hg d, hl, hc⟩
theorem BPre.lt {w : World} {b : Nat} {m : List Bool} (h : BPre w b m) : b < w.heap.size := by
  obtain ⟨cur, hg, _⟩ := h
  exact (Array.getElem?_eq_some_iff.1 hg).1
theorem BPre.other {w : World} {b b' : Nat} {m : List Bool} (h : BPre w b m) (hne : b ≠ b') (i : Nat) (u : Value) : BPre (w.setCell ⟨b', i, none⟩ u) b m := by
  obtain ⟨cur, hg, hl, hc⟩ := h
  exact ⟨cur, (Below.heap_setCell w ⟨b', i, none⟩ u b hne).trans hg, hl, hc⟩
theorem BRow.pre {w : World} {b : Nat} {m : List Bool} (h : BRow w b m) : BPre w b m :=
  ⟨_, h, by simp, fun i hi => by
    rw [List.getElem?_toArray, List.getElem?_map, List.getElem?_eq_getElem hi]
    simp [List.getD, hi]⟩
/-- Where marks lie, if there are any. -/
structure BV (w : World) (base : Nat) (A : Option Addr) (m : List Bool) : Prop where
  at_ : 0 < m.length → ∃ b, A = some ⟨b, 0, none⟩ ∧ base ≤ b ∧ BPre w b m
theorem BV.below {w w' : World} {base : Nat} {A : Option Addr} {m : List Bool} (h : BV w base A m) (d : Below w.heap.size w w') : BV w' base A m :=
  ⟨fun h0 => by obtain ⟨b, h1, h2, h3⟩ := h.at_ h0; exact ⟨b, h1, h2, h3.below d⟩⟩
theorem BV.lower {w : World} {base base' : Nat} {A : Option Addr} {m : List Bool} (h : BV w base A m) (d : base' ≤ base) : BV w base' A m :=
  ⟨fun h0 => by obtain ⟨b, h1, h2, h3⟩ := h.at_ h0; exact ⟨b, h1, Nat.le_trans d h2, h3⟩⟩
theorem encB_len' (b : Bool) : (encB b).length = 1 := rfl
theorem encB_one' (b : Bool) : ∀ u ∈ encB b, u.oneCell' = true := by simp [encB, Value.oneCell']
theorem bv_of_own {w : World} {base : Nat} {v : Value} {m : List Bool} (h : Own encB 1 4 w base v m) : ∃ A c, v = .slice A m.length c ∧ BV w base A m := by
  rcases h with ⟨rfl, A, rfl⟩ | ⟨b, cap, cur, rfl, hb, hp, h1, h2, hg, hs, ht⟩
  · exact ⟨A, 0, rfl, ⟨fun h => absurd h (by simp)⟩⟩
  · refine ⟨_, cap, rfl, ⟨fun _ => ⟨b, rfl, hb, cur, hg, by omega, fun i hi => ?_⟩⟩⟩
    have h3 : (m.flatMap encB)[i]? = some (.bool (m.getD i false)) := by
      have := flatMap_get (enc := encB) (size := 1) encB_len' m i m[i] 0 (.bool m[i]) (List.getElem?_eq_getElem hi) rfl
      rw [Nat.mul_one, Nat.add_zero] at this
      rw [this]
      simp [List.getD, hi]
    rw [← ht, List.getElem?_take] at h3
    split at h3
    · simpa using h3
    · cases h3
theorem bv_sl {w : World} {base : Nat} {A : Option Addr} {m : List Bool} (h : BV w base A m) (c : Nat) : Sl encB 1 w w.heap.size (.slice A m.length c) m :=
  ⟨A, c, rfl, fun h0 => by
    obtain ⟨b, h1, _, h3⟩ := h.at_ h0
    refine ⟨b, 0, h1, h3.lt, fun i x hx j u hu => ?_⟩
    have hi := (List.getElem?_eq_some_iff.1 hx).1
    have hj : j = 0 := by
      have := (List.getElem?_eq_some_iff.1 hu).1
      rw [encB_len'] at this; omega
    subst hj
    have := h3.cell i hi
    simp [encB] at hu
    rw [Nat.zero_add, Nat.mul_one, Nat.add_zero, this]
    simp [List.getD, hx, hu]⟩

theorem rrises2_ok (A : Option Addr) (c : Nat) (base : Nat) (m : List Bool) (n : Nat) (w : World) (hm : m.length = n) (hnn : n ≤ 1000) (hR : BV w base A m) :
    Calls Tryz.prog 61 #[.slice A n c] w (fun r w' => ∃ v', r = .returned v' ∧ Own encI 1 3 w' w.heap.size v' (rs m) ∧ Below w.heap.size w w') := by
  obtain ⟨i0, hi, hz0, hz1, hz2⟩ := info_parts info_int
  have hrs : rs m = rsk m n := by unfold rs rsk; rw [hm]
  rw [hrs]
  go_enter Tryz.func61, Tryz.ntmps61
  go_wp2
  go_loopw [8, 3] (fun i v wr => ∃ (k : Nat) (A' : Option Addr) (c' : Nat), k ≤ n ∧ i = .int .i64 k ∧ v = .slice A' (rsk m k).length c' ∧ Own encI 1 3 wr w.heap.size (.slice A' (rsk m k).length c') (rsk m k) ∧ Below w.heap.size w wr) (fun i _ _ => n - (intOf i).toNat)
  case atStart => exact ⟨0, none, 0, Nat.zero_le _, rfl, rfl, Own.nil none, Below.refl _ _⟩
  case round =>
    obtain ⟨k, A0, c0, hk, rfl, rfl, ho, hb⟩ := hrel
    by_cases hlt : k < n
    · obtain ⟨b, rfl, _, hRb⟩ := (hR.below hb).at_ (by omega)
      have hc := hRb.cell k (by omega)
      have hi2 : (k : Int) < n := by omega
      have hlen := rsk_len m k
      cases hmk : m.getD k false with
      | true =>
        rw [hmk] at hc
        have hnx := rsk_yes hmk
        have hbyt : (4 * ((rsk m k).length + 1) + 4096) * 8 ≤ 140737488355328 := by omega
        have hwl2 : (rsk m k).length + 1 ≤ 4611686018427387904 := by omega
        have HN := Lib.hid hnx
        clear hnx hmk hR hRb hrs
        generalize rsk m k = xs at *
        have hbs := hb.size
        go_wp2_with (at_builtin; refine wpList_append_my _ rfl (.tmp 14) (.tmp 16) 22 rfl encI_len encI_one 3 i0 _ Tryz.underlying22 hi hz0 hz1 hz2 rfl (by decide) (base := w.heap.size) rfl (xs := xs) (ho.below (alloc1 wr _)) rfl (ys := [(k : Int)]) (Sl_one (enc := encI) (size := 1) wr (k : Int) _ _) hbyt hwl2 (Nat.le_trans hbs (alloc1 wr _).size) ?_; intro v1 w1 hown1 hg1 hb1 hl1; obtain ⟨A1, cc1, rfl, hle1⟩ := hown1.form)
        go_roundw
        case rel =>
          refine ⟨k + 1, A1, cc1, by omega, by go_num, by rw [HN.out, List.length_append]; rfl, by rw [HN.out]; exact hown1, ?_⟩
          exact (hb.trans ((alloc1 wr _).mono hbs)).trans hl1
        case measure => simp [intOf]; omega
      | false =>
        rw [hmk] at hc
        have hnx := rsk_no hmk
        have HN := Lib.hid hnx
        clear hnx hmk hR hRb hrs
        generalize rsk m k = xs at *
        go_wp2
        go_roundw
        case rel => exact ⟨k + 1, A0, c0, by omega, by go_num, by rw [HN.out], by rw [HN.out]; exact ho, hb⟩
        case measure => simp [intOf]; omega
    · have : k = n := by omega
      subst this
      clear hR hrs
      generalize hx : rsk m k = xs at *
      have HX := Lib.hid hx
      clear hx
      go_wp2
      go_ret
      exact ⟨.slice A0 xs.length c0, rfl, by rw [HX.out]; exact ho, hb⟩
end Go.Proofs.YtakldmbbmefnbaaGreat
/- the reference's words: free. -/
namespace Go.Proofs.YtakldmbbmefnbaaGreat
open Go.RowKit Go.Sort Go.Proofs
set_option maxRecDepth 100000
set_option maxHeartbeats 2000000

theorem rfree_ok (a : A) (vs vf ve : Value) (Am : Option Addr) (cm bs : Nat) (m : List Bool) (w : World) (hfa : FaAt w w.heap.size a vs vf ve) (ha : Fit a) (n : Nat) (hn : a.states = n) (hml : m.length = n) (hbm : BV w bs Am m) :
    Calls Tryz.prog 140 #[vA a vs vf ve, .slice Am n cm] w (fun r w' => ∃ v', r = .returned v' ∧ Own encI 1 3 w' w.heap.size v' (cl n (a.pairs true (fun e => e.free)) (rs m)) ∧ Below w.heap.size w w') := by
  have hnn : n ≤ 1000 := by have := ha.n; omega
  have heb : ∀ e ∈ a.edges, (0 ≤ e.src ∧ e.src < n) ∧ 0 ≤ e.dst ∧ e.dst < n := fun e he => by have := edge_in ha he; omega
  obtain ⟨As, cs, rfl, hs1⟩ := id hfa.s
  obtain ⟨Af, cf, rfl, hs2⟩ := id hfa.f
  obtain ⟨Ae, ce, rfl, hre⟩ := id hfa.e
  have hel := ha.e
  obtain ⟨W1, hW1⟩ : ∃ W1, w.alloc (.cells #[.int .i64 (n : Nat), .slice As a.start.length cs, .slice Af a.final.length cf, .slice Ae a.edges.length ce] 25) = W1 := ⟨_, rfl⟩
  have d1 : Below w.heap.size w W1 := hW1 ▸ alloc1 w _
  have b1 : W1.heap[w.heap.size]? = some (.cells #[.int .i64 (n : Nat), .slice As a.start.length cs, .slice Af a.final.length cf, .slice Ae a.edges.length ce] 25 (0, 0)) := by rw [← hW1]; exact heap_alloc_new w _
  have hz1 := d1.size
  have hfin : rs (sws (a.pairs true (fun e => e.free)) n m) = cl n (a.pairs true (fun e => e.free)) (rs m) := by
    exact sws_rs (ps := a.pairs true (fun e => e.free)) (n := n) (m := m) hml (fun p hp => by
      unfold A.pairs at hp
      obtain ⟨e, he, rfl⟩ := List.mem_map.1 hp
      have := heb e (List.mem_filter.1 he).1
      simp [turned]; omega)
  have q1 : W1.cell? ⟨w.heap.size, 0, none⟩ = some (.int .i64 (n : Nat)) := cell_at b1 0
  have q2 : W1.cell? ⟨w.heap.size, 1, none⟩ = some (.slice As a.start.length cs) := cell_at b1 1
  have q3 : W1.cell? ⟨w.heap.size, 2, none⟩ = some (.slice Af a.final.length cf) := cell_at b1 2
  have q4 : W1.cell? ⟨w.heap.size, 3, none⟩ = some (.slice Ae a.edges.length ce) := cell_at b1 3
  unfold vA
  rw [hn]
  have hlt1 : w.heap.size < W1.heap.size := by rw [← hW1]; simp
  have HF := Lib.hid (And.intro hfin (And.intro heb (And.intro hre hn)))
  have hbm1 := hbm.below d1
  obtain ⟨i2, hi2, hz2, hs2', hb2'⟩ := info_parts info_bool
  have hsl := bv_sl hbm1 cm
  rw [hml] at hsl
  clear hfin heb hre hn hfa hs1 hs2 b1 hbm
  go_enter Tryz.func140, Tryz.ntmps140
  go_wp2_with (at_builtin; refine wpList_append_my _ rfl (.tmp 8) (.tmp 9) 87 rfl encB_len' encB_one' 4 i2 _ Tryz.underlying87 hi2 hz2 hs2' hb2' rfl (by decide) (base := W1.heap.size) rfl (xs := []) (Own.nil _) rfl (ys := m) (hsl.below ((Below.refl _ _).alloc (Nat.le_refl _) _) (Nat.le_refl _)) (by rw [List.length_nil, hml]; omega) (by rw [List.length_nil, hml]; omega) (Nat.le_of_lt (by simp)) ?_; intro v1 w1 hown1 hg1 hb1 hl1; simp only [List.nil_append] at hown1; obtain ⟨A1, c1, hv, hbv⟩ := bv_of_own hown1; rw [hml] at hv; subst hv; have d2 : Below W1.heap.size W1 w1 := ((Below.refl _ W1).alloc (Nat.le_refl _) _).trans hl1; have s1 := (d2.cell (p := ⟨w.heap.size, 0, none⟩) hlt1).trans q1)
  clear s1 hown1 hg1 hb1 hl1 hsl hbm1 hi2 hz2 hs2' hb2'
  go_loopw [13] (fun i wr => ∃ k : Nat, k ≤ n ∧ i = .int .i64 k ∧ BV wr W1.heap.size A1 (sws (a.pairs true (fun e => e.free)) k m) ∧ Below W1.heap.size W1 wr) (fun i _ => n - (intOf i).toNat)
  case atStart => exact ⟨0, Nat.zero_le _, rfl, hbv, d2⟩
  case round =>
    obtain ⟨k, hk, rfl, hR, hb⟩ := hrel
    clear hbv d2
    obtain ⟨wo, hwo⟩ : ∃ wo, wo = wr := ⟨_, rfl⟩
    subst hwo
    by_cases hlt : k < n
    · have r4 := (hb.cell (p := ⟨w.heap.size, 3, none⟩) hlt1).trans q4
      have hi1 : (k : Int) < n := by omega
      obtain ⟨b, rfl, hb0, hRb⟩ := hR.at_ (by rw [sws_len]; omega)
      have hR1 : BPre wo b (sw (a.prs true (fun e => e.free) 0) (sws (a.pairs true (fun e => e.free)) k m)) := hRb
      clear hRb
      have hmk := sws_len (a.pairs true (fun e => e.free)) m k
      have hnx : sw (a.pairs true (fun e => e.free)) (sws (a.pairs true (fun e => e.free)) k m) = sws (a.pairs true (fun e => e.free)) (k + 1) m := rfl
      have HN := Lib.hid hnx
      clear hR hnx
      generalize sws (a.pairs true (fun e => e.free)) k m = mk at *
      rw [hml] at hmk
      go_wp2_with fail
      go_loopw [18] (fun i wr => ∃ j : Nat, j ≤ a.edges.length ∧ i = .int .i64 j ∧ BPre wr b (sw (a.prs true (fun e => e.free) j) mk) ∧ Below W1.heap.size W1 wr) (fun i _ => a.edges.length - (intOf i).toNat)
      case atStart => exact ⟨0, Nat.zero_le _, rfl, hR1, hb⟩
      case round =>
        obtain ⟨j, hj, rfl, hR2, hb2⟩ := hrel
        clear hR1 hb r4
        by_cases hlt2 : j < a.edges.length
        · obtain ⟨_, heb, hre, _⟩ := HF.out
          obtain ⟨eb, eo, rfl, heb2, hec⟩ := hre (by omega)
          obtain ⟨z0, z1, z2, z3, z4, z5, z6⟩ := cell7 hec hlt2
          have hE := heb _ (List.getElem_mem hlt2)
          have dd := below_next d1 hb2
          have y0 := (dd.cell (p := ⟨eb, eo + j * 7, none⟩) heb2).trans z0
          have y1 := (dd.cell (p := ⟨eb, eo + j * 7 + 1, none⟩) heb2).trans z1
          have y2 := (dd.cell (p := ⟨eb, eo + j * 7 + 2, none⟩) heb2).trans z2
          have y3 := (dd.cell (p := ⟨eb, eo + j * 7 + 3, none⟩) heb2).trans z3
          have y4 := (dd.cell (p := ⟨eb, eo + j * 7 + 4, none⟩) heb2).trans z4
          have y5 := (dd.cell (p := ⟨eb, eo + j * 7 + 5, none⟩) heb2).trans z5
          have y6 := (dd.cell (p := ⟨eb, eo + j * 7 + 6, none⟩) heb2).trans z6
          have hsw := sw_edge a true (fun e => e.free) mk j hlt2
          have hml2 := sw_len (a.prs true (fun e => e.free) j) mk
          rw [hmk] at hml2
          clear z0 z1 z2 z3 z4 z5 z6 hec hre heb
          generalize a.edges[j] = ed at *
          obtain ⟨ex, ey, ef, eset⟩ := ed
          simp only [turned] at hE hsw y0 y1 y2 y3 y4 y5 y6
          obtain ⟨x, rfl⟩ : ∃ x : Nat, ex = x := ⟨ex.toNat, by omega⟩
          obtain ⟨y, rfl⟩ : ∃ y : Nat, ey = y := ⟨ey.toNat, by omega⟩
          obtain ⟨⟨_, hxn⟩, _, hyn⟩ := hE
          generalize sw (a.prs true (fun e => e.free) j) mk = M at *
          have cx := hR2.cell x (by omega)
          have cy := hR2.cell y (by omega)
          have fx := hR2.free x
          have hbl := hR2.lt
          have hzb : W1.heap.size ≤ b := hb0
          have hxi : (x : Int) < n := by omega
          have hyi : (y : Int) < n := by omega
          simp only [if_true, Int.toNat_natCast] at hsw
          have hba := hb2.trans ((alloc1 wr (.cells #[.int .i64 (x : Nat), .int .i64 (y : Nat), .bool ef, .int .u64 eset.w0.toNat, .int .u64 eset.w1.toNat, .int .u64 eset.w2.toNat, .int .u64 eset.w3.toNat] 73)).mono hb2.size)
          have hRa := hR2.below (alloc1 wr (.cells #[.int .i64 (x : Nat), .int .i64 (y : Nat), .bool ef, .int .u64 eset.w0.toNat, .int .u64 eset.w1.toNat, .int .u64 eset.w2.toNat, .int .u64 eset.w3.toNat] 73))
          have hRs := hR2.set x true
          have hbs := hb2.setCell (p := ⟨b, x, none⟩) hzb (.bool true)
          have HRS := Lib.hid (And.intro hRs hbs)
          clear hR2 hRs hbs
          cases ef with
          | false =>
            simp only [Bool.false_and, Bool.false_eq_true, if_false] at hsw
            have HS := Lib.hid (And.intro hsw (And.intro hml2 (And.intro hRa hba)))
            clear hsw hml2 hRa hba cx cy
            go_wp2_with fail
            go_roundw
            case rel => exact ⟨j + 1, by omega, by go_num, by rw [HS.out.1]; exact HS.out.2.2.1, HS.out.2.2.2⟩
            case measure => simp [intOf]; omega
          | true =>
            cases hmx : M.getD y false with
            | false =>
              rw [hmx] at cy
              simp only [hmx, Bool.and_false, Bool.false_eq_true, if_false] at hsw
              have HS := Lib.hid (And.intro hsw (And.intro hml2 (And.intro hRa (And.intro hba hmx))))
              clear hsw hml2 hRa hba cx hmx
              go_wp2_with fail
              go_roundw
              case rel => exact ⟨j + 1, by omega, by go_num, by rw [HS.out.1]; exact HS.out.2.2.1, HS.out.2.2.2.1⟩
              case measure => simp [intOf]; omega
            | true =>
              rw [hmx] at cy
              simp only [hmx, Bool.and_self, if_true] at hsw
              have HS := Lib.hid (And.intro hsw (And.intro hml2 (And.intro hRa (And.intro hba hmx))))
              clear hsw hml2 hRa hba hmx
              generalize M.getD x false = old at *
              go_wp2_with fail
              go_roundw
              case rel => exact ⟨j + 1, by omega, by go_num, by rw [HS.out.1]; exact HRS.out.1.below (alloc1 _ _), HRS.out.2.trans ((alloc1 _ _).mono HRS.out.2.size)⟩
              case measure => simp [intOf]; omega
        · have : j = a.edges.length := by omega
          subst this
          rw [prs_all, HN.out] at hR2
          have hRn := Lib.hid hR2
          clear hR2
          go_wp2_with fail
          go_roundw
          case rel => exact ⟨k + 1, by omega, by go_num, ⟨fun _ => ⟨b, rfl, hb0, hRn.out⟩⟩, hb2⟩
          case measure => simp [intOf]; omega
    · have : k = n := by omega
      subst this
      have hmk := sws_len (a.pairs true (fun e => e.free)) m k
      rw [hml] at hmk
      have hrr := rrises2_ok A1 c1 W1.heap.size _ k wo hmk hnn hR
      rw [HF.out.1] at hrr
      have hHb := Lib.hid hb
      clear hR hmk
      go_wp2_with fail
      refine hrr.mono ?_
      rintro e w5 ⟨v5, rfl, ho5, d5⟩
      obtain ⟨A5, c5, rfl, _⟩ := ho5.form
      go_wp2_with fail
      go_ret
      have hb := hHb.out
      exact ⟨_, rfl, ho5.lower (Nat.le_trans hz1 hb.size), below_next (below_next d1 hb) d5⟩
end Go.Proofs.YtakldmbbmefnbaaGreat
/- From which states a final is near, in bytes; the first word is but one; no program in sight. -/
namespace Go.Proofs.YtakldmbbmefnbaaGreat

variable {a : A}

/-- From a state a word of at most so many bytes is taken. -/
def Wi (a : A) (k : Nat) (s : Int) : Prop := ∃ w : List UInt8, w.length ≤ k ∧ ∃ t ∈ a.final, Comes a s w t

/-- Marks, and the sources of the edges that are not free and lead to marks. -/
def more (es : List E) (m acc : List Bool) : List Bool := es.foldl (fun acc e => if !e.free && m.getD e.dst.toNat false then acc.set e.src.toNat true else acc) acc
theorem more_snoc (es : List E) (e : E) (m acc : List Bool) : more (es ++ [e]) m acc = if !e.free && m.getD e.dst.toNat false then (more es m acc).set e.src.toNat true else more es m acc := by
  unfold more; rw [List.foldl_append]; rfl
theorem more_len (es : List E) (m : List Bool) : ∀ acc, (more es m acc).length = acc.length := by
  induction es with
  | nil => intro acc; rfl
  | cons e es ih =>
    intro acc
    show (more es m (if !e.free && m.getD e.dst.toNat false then acc.set e.src.toNat true else acc)).length = _
    rw [ih]
    split <;> simp
theorem more_get (es : List E) (m : List Bool) : ∀ (acc : List Bool), (∀ e ∈ es, e.src.toNat < acc.length) → ∀ i, (more es m acc).getD i false = true ↔ acc.getD i false = true ∨ ∃ e ∈ es, e.free = false ∧ m.getD e.dst.toNat false = true ∧ e.src.toNat = i := by
  induction es with
  | nil => intro acc _ i; simp [more]
  | cons e es ih =>
    intro acc hl i
    show (more es m (if !e.free && m.getD e.dst.toNat false then acc.set e.src.toNat true else acc)).getD i false = true ↔ _
    rw [ih _ (fun e' he' => by split <;> simpa using hl e' (List.mem_cons_of_mem _ he'))]
    have h0 := hl e (by simp)
    constructor
    · rintro (h | ⟨e', h1, h2⟩)
      · split at h
        · rename_i hc
          by_cases hi : e.src.toNat = i
          · simp at hc
            exact .inr ⟨e, by simp, by simpa using hc.1, by simpa [List.getD] using hc.2, hi⟩
          · rw [List.getD, List.getElem?_set_ne hi] at h
            exact .inl h
        · exact .inl h
      · exact .inr ⟨e', List.mem_cons_of_mem _ h1, h2⟩
    · rintro (h | ⟨e', h1, h2, h3, h4⟩)
      · left
        split
        · by_cases hi : e.src.toNat = i
          · subst hi; simp [List.getD, h0]
          · rw [List.getD, List.getElem?_set_ne hi]; exact h
        · exact h
      · rcases List.mem_cons.1 h1 with rfl | h1
        · left
          rw [if_pos (by rw [h2, h3]; rfl)]
          subst h4
          simp [List.getD, h0]
        · exact .inr ⟨e', h1, h2, h3, h4⟩

/-- Going back over free edges. -/
theorem mem_back (ha : Fit a) {l : List Int} (hl : Inb a l) {n : Nat} (hn : a.states = n) {s : Int} : s ∈ cl n (a.pairs true (fun e => e.free)) l ↔ ∃ q ∈ l, Comes a s [] q := by
  rw [mem_cl]
  constructor
  · intro h9
    replace h9 := h9.2
    induction h9 with
    | start h => exact ⟨_, h, .nil _⟩
    | @step r s _ hp ih =>
      obtain ⟨q, hq, hc⟩ := ih
      obtain ⟨e, he, h2⟩ := List.mem_map.1 hp
      simp [turned] at h2
      obtain ⟨rfl, rfl⟩ := h2
      have hm := List.mem_filter.1 he
      exact ⟨q, hq, .free hm.1 (by simpa using hm.2) hc⟩
  · rintro ⟨q, hq, hc⟩
    have hg : Goes (a.pairs true (fun e => e.free)) l s := by
      generalize hv : ([] : List UInt8) = v at hc
      induction hc with
      | nil => exact .start hq
      | @free e w t he hf _ ih => exact .step (ih hq hv) (List.mem_map.2 ⟨e, List.mem_filter.2 ⟨he, hf⟩, by simp [turned]⟩)
      | byte => cases hv
    refine ⟨?_, hg⟩
    cases hg with
    | start h => have := hl _ h; omega
    | step _ hp =>
      obtain ⟨e, he, h2⟩ := List.mem_map.1 hp
      simp [turned] at h2
      have := edge_in ha (List.mem_filter.1 he).1
      omega

/-- The marks of the states from which k bytes are enough. -/
noncomputable def wk (a : A) (n : Nat) : Nat → List Bool
  | 0 => marks n (cl n (a.pairs true (fun e => e.free)) a.final)
  | k + 1 => marks n (cl n (a.pairs true (fun e => e.free)) (rs (more a.edges (wk a n k) (wk a n k))))
theorem wk_len (a : A) (n : Nat) : ∀ k, (wk a n k).length = n
  | 0 => marks_len ..
  | _ + 1 => marks_len ..
theorem marks_at {n : Nat} {l : List Int} {s : Nat} (hs : s < n) : (marks n l).getD s false = true ↔ (s : Int) ∈ l := by
  rw [List.getD, marks_get l hs]
  simp
theorem wk_iff (ha : Fit a) {n : Nat} (hn : a.states = n) : ∀ k (s : Nat), s < n → ((wk a n k).getD s false = true ↔ Wi a k s)
  | 0, s, hs => by
    unfold wk
    rw [marks_at hs, mem_back ha (inb_final ha) hn]
    constructor
    · rintro ⟨q, hq, hc⟩; exact ⟨[], Nat.le_refl _, q, hq, hc⟩
    · rintro ⟨w, hw, t, ht, hc⟩
      have : w = [] := List.eq_nil_of_length_eq_zero (by omega)
      subst this
      exact ⟨t, ht, hc⟩
  | k + 1, s, hs => by
    have hsrc : ∀ e ∈ a.edges, e.src.toNat < (wk a n k).length := fun e he => by
      have := edge_in ha he; rw [wk_len]; omega
    have hin : Inb a (rs (more a.edges (wk a n k) (wk a n k))) := by
      intro q hq
      obtain ⟨h0, h1⟩ := mem_rs.1 hq
      have hlt : q.toNat < n := by
        refine Classical.byContradiction fun hno => ?_
        rw [List.getD, List.getElem?_eq_none (by rw [more_len, wk_len]; omega)] at h1
        cases h1
      omega
    unfold wk
    rw [marks_at hs, mem_back ha hin hn]
    constructor
    · rintro ⟨q, hq, hc⟩
      obtain ⟨h0, h1⟩ := mem_rs.1 hq
      have hlt := hin q hq
      rcases (more_get _ _ _ hsrc _).1 h1 with h2 | ⟨e, he, hf, h2, h3⟩
      · have h4 := (wk_iff ha hn k q.toNat (by omega)).1 h2
        rw [show ((q.toNat : Nat) : Int) = q by omega] at h4
        obtain ⟨w, hw, t, ht, hc2⟩ := h4
        exact ⟨w, by omega, t, ht, by simpa using hc.append hc2⟩
      · have hE := edge_in ha he
        have h4 := (wk_iff ha hn k e.dst.toNat (by omega)).1 h2
        rw [show ((e.dst.toNat : Nat) : Int) = e.dst by omega] at h4
        obtain ⟨w, hw, t, ht, hc2⟩ := h4
        obtain ⟨b, hb⟩ := hE.2.2 hf
        have hq2 : q = e.src := by omega
        subst hq2
        exact ⟨b :: w, by simpa using hw, t, ht, by simpa using hc.append (.byte he hf hb hc2)⟩
    · rintro ⟨w, hw, t, ht, hc⟩
      cases w with
      | nil =>
        have hti := inb_final ha t ht
        refine ⟨t, mem_rs.2 ⟨hti.1, (more_get _ _ _ hsrc _).2 (.inl ?_)⟩, hc⟩
        refine (wk_iff ha hn k t.toNat (by omega)).2 ?_
        rw [show ((t.toNat : Nat) : Int) = t by omega]
        exact ⟨[], Nat.zero_le _, t, ht, .nil _⟩
      | cons b w =>
        obtain ⟨r, h1, h2⟩ := hc.head
        obtain ⟨e, he, hf, hb, h3, h4⟩ := h1.one rfl
        have hE := edge_in ha he
        refine ⟨e.src, mem_rs.2 ⟨hE.1.1, (more_get _ _ _ hsrc _).2 (.inr ⟨e, he, hf, ?_, rfl⟩)⟩, h3⟩
        refine (wk_iff ha hn k e.dst.toNat (by omega)).2 ?_
        rw [show ((e.dst.toNat : Nat) : Int) = e.dst by omega]
        exact ⟨w, by simpa using hw, t, ht, by simpa using h4.append h2⟩

/-- Does one of some states stand near? -/
def metB (m : List Bool) (l : List Int) : Bool := l.any (fun s => m.getD s.toNat false)
theorem met_iff (ha : Fit a) {n : Nat} (hn : a.states = n) {l : List Int} (hl : Inb a l) (k : Nat) : metB (wk a n k) l = true ↔ ∃ s ∈ l, Wi a k s := by
  unfold metB
  rw [List.any_eq_true]
  constructor
  · rintro ⟨s, hs, h⟩
    have := hl s hs
    have h2 := (wk_iff ha hn k s.toNat (by omega)).1 h
    rw [show ((s.toNat : Nat) : Int) = s by omega] at h2
    exact ⟨s, hs, h2⟩
  · rintro ⟨s, hs, h⟩
    have := hl s hs
    refine ⟨s, hs, (wk_iff ha hn k s.toNat (by omega)).2 ?_⟩
    rwa [show ((s.toNat : Nat) : Int) = s by omega]

theorem first_length (ha : Fit a) {n N : Nat} (hn : a.states = n) {fw : List UInt8} (hf : IsFirst a N fw) (k : Nat) : metB (wk a n k) (a.clo a.start) = true ↔ fw.length ≤ k := by
  rw [met_iff ha hn (inb_clo ha _)]
  constructor
  · rintro ⟨s, hs, w, hw, t, ht, hc⟩
    obtain ⟨r, hr, h1⟩ := (mem_clo ha (inb_start ha)).1 hs
    have := (hf.least w ⟨r, hr, t, ht, by simpa using h1.append hc⟩).1
    omega
  · intro hle
    obtain ⟨r, hr, t, ht, hc⟩ := hf.takes
    exact ⟨r, (mem_clo ha (inb_start ha)).2 ⟨r, hr, .nil _⟩, fw, hle, t, ht, hc⟩
theorem none_met (ha : Fit a) {n : Nat} (hn : a.states = n) (hno : ∀ w, ¬ a.takes w) (k : Nat) : metB (wk a n k) (a.clo a.start) = false := by
  rw [← Bool.not_eq_true, met_iff ha hn (inb_clo ha _)]
  rintro ⟨s, hs, w, hw, t, ht, hc⟩
  obtain ⟨r, hr, h1⟩ := (mem_clo ha (inb_start ha)).1 hs
  exact hno w ⟨r, hr, t, ht, by simpa using h1.append hc⟩
/-- The next byte is the least by which one comes near enough. -/
theorem first_next (ha : Fit a) {n N : Nat} (hn : a.states = n) {fw : List UInt8} (hf : IsFirst a N fw) {i k : Nat} (hi : i < fw.length) (hk : i + k + 1 = fw.length) (c : UInt8) (hc : c.toNat ≤ fw[i].toNat) :
    metB (wk a n k) (a.step (a.after (fw.take i)) c.toNat) = decide (c = fw[i]) := by
  rw [Bool.eq_iff_iff, met_iff ha hn (inb_step ha _ _), decide_eq_true_iff]
  constructor
  · rintro ⟨s, hs, w, hw, t, ht, hcm⟩
    rw [← after_snoc] at hs
    obtain ⟨r, hr, h1⟩ := (mem_after ha).1 hs
    have htk : a.takes (fw.take i ++ [c] ++ w) := ⟨r, hr, t, ht, h1.append hcm⟩
    have hl := hf.least _ htk
    have hlen : (fw.take i ++ [c] ++ w).length = i + 1 + w.length := by simp; omega
    have hwl : (fw.take i ++ [c] ++ w).length = fw.length := by
      have := hl.1
      omega
    have hti : (fw.take i).length = i := by rw [List.length_take]; omega
    have h3 := hl.2 hwl i hi (by omega) (by rw [List.append_assoc, List.take_append_of_le_length (by omega), List.take_of_length_le (by omega)])
    have h4 : (fw.take i ++ [c] ++ w)[i]'(by omega) = c := by
      rw [List.getElem_append_left (by simp; omega), List.getElem_append_right (by omega)]
      simp [hti]
    rw [h4] at h3
    exact UInt8.toNat_inj.1 (by omega)
  · rintro rfl
    obtain ⟨r, hr, t, ht, hcm⟩ := hf.takes
    rw [show fw = fw.take (i + 1) ++ fw.drop (i + 1) from (List.take_append_drop _ _).symm] at hcm
    have hsplit : ∀ (v w : List UInt8) (s u : Int), Comes a s (v ++ w) u → ∃ q, Comes a s v q ∧ Comes a q w u := by
      intro v
      induction v with
      | nil => intro w s u h; exact ⟨s, .nil _, h⟩
      | cons b v ih =>
        intro w s u h
        obtain ⟨q, h1, h2⟩ := Comes.head h
        obtain ⟨q2, h3, h4⟩ := ih w q u h2
        exact ⟨q2, by simpa using h1.append h3, h4⟩
    obtain ⟨q, h1, h2⟩ := hsplit _ _ _ _ hcm
    refine ⟨q, ?_, fw.drop (i + 1), by rw [List.length_drop]; omega, t, ht, h2⟩
    rw [← after_snoc, ← List.take_succ_eq_append_getElem hi]
    exact (mem_after ha).2 ⟨r, hr, h1⟩
end Go.Proofs.YtakldmbbmefnbaaGreat
/- the reference's words: meets. -/
namespace Go.Proofs.YtakldmbbmefnbaaGreat
open Go.RowKit Go.Sort Go.Proofs
set_option maxRecDepth 100000
set_option maxHeartbeats 2000000

theorem rmeets_ok (A : Option Addr) (c base : Nat) (vl : Value) (m : List Bool) (n : Nat) (l : List Int) (w : World) (hm : m.length = n) (hR : BV w base A m) (hl : Ints w w.heap.size vl l) (hin : ∀ s ∈ l, 0 ≤ s ∧ s < n) (hll : l.length ≤ 1000000) :
    Calls Tryz.prog 88 #[vl, .slice A n c] w (fun r w' => r = .returned (.bool (metB m l)) ∧ w' = w) := by
  obtain ⟨A0, c0, rfl, hr⟩ := id hl
  clear hl
  have hdef : ∀ k, metB m (l.take k) = (l.take k).any (fun s => m.getD s.toNat false) := fun _ => rfl
  have HD := Lib.hid hdef
  clear hdef
  go_enter Tryz.func88, Tryz.ntmps88
  go_wp2
  go_loop [9] (fun i => ∃ k : Nat, k ≤ l.length ∧ i = .int .i64 k ∧ metB m (l.take k) = false) (fun i => l.length - (intOf i).toNat)
  case atStart => exact ⟨0, Nat.zero_le _, rfl, rfl⟩
  case round =>
    obtain ⟨k, hk, rfl, hno⟩ := hrel
    by_cases hlt : k < l.length
    · obtain ⟨b0, o0, rfl, hb0, hc0⟩ := hr (by omega)
      have hcell := cell1 encI_eq hc0 hlt
      have hs := hin _ (List.getElem_mem hlt)
      obtain ⟨s, hsx⟩ : ∃ s : Nat, l[k] = s := ⟨l[k].toNat, by omega⟩
      have hmem : (s : Int) ∈ l := hsx ▸ List.getElem_mem hlt
      rw [hsx] at hcell hs
      have hsn : s < n := by omega
      obtain ⟨b, rfl, _, hRb⟩ := hR.at_ (by omega)
      have hcs := hRb.cell s (by omega)
      have hi2 : (k : Int) < l.length := by omega
      have hi3 : (s : Int) < n := by omega
      have htk : metB m (l.take (k + 1)) = (metB m (l.take k) || m.getD s false) := by
        unfold metB
        rw [List.take_succ_eq_append_getElem hlt, List.any_append, hsx]
        simp
      cases hms : m.getD s false with
      | true =>
        rw [hms] at hcs
        have hres : metB m l = true := List.any_eq_true.2 ⟨s, hmem, by simpa using hms⟩
        have HR := Lib.hid hres
        clear hres hno hr hc0 htk hms hR hRb hin hs hsx hmem
        go_wp2
        go_ret
        exact ⟨by rw [HR.out]; rfl, rfl⟩
      | false =>
        rw [hms] at hcs
        rw [hno, hms] at htk
        have HN := Lib.hid htk
        clear htk hno hr hc0 hms hR hRb hin hs hsx hmem
        go_wp2
        go_round
        case rel => exact ⟨k + 1, by omega, by go_num, HN.out⟩
        case measure => simp [intOf]; omega
    · have : k = l.length := by omega
      subst this
      rw [List.take_length] at hno
      have HR := Lib.hid hno
      clear hno hr hin hR
      go_wp2
      go_ret
      exact ⟨by rw [HR.out]; rfl, rfl⟩
end Go.Proofs.YtakldmbbmefnbaaGreat
/- the reference's words: within. -/
namespace Go.Proofs.YtakldmbbmefnbaaGreat
open Go.RowKit Go.Sort Go.Proofs
set_option maxRecDepth 100000
set_option maxHeartbeats 4000000

theorem rwithin_ok (a : A) (vs vf ve : Value) (K : Nat) (w : World) (hfa : FaAt w w.heap.size a vs vf ve) (ha : Fit a) (n : Nat) (hn : a.states = n) (hK : K ≤ 1000) :
    Calls Tryz.prog 89 #[vA a vs vf ve, .int .i64 (K : Nat)] w (fun r w' => ∃ b, r = .returned (.slice (some ⟨b, 0, none⟩) n n) ∧ w.heap.size ≤ b ∧ BRow w' b (wk a n K) ∧ Below w.heap.size w w') := by
  have hnn : n ≤ 1000 := by have := ha.n; omega
  have heb : ∀ e ∈ a.edges, (0 ≤ e.src ∧ e.src < n) ∧ 0 ≤ e.dst ∧ e.dst < n := fun e he => by have := edge_in ha he; omega
  obtain ⟨As, cs, rfl, hs1⟩ := id hfa.s
  obtain ⟨Af, cf, rfl, hs2⟩ := id hfa.f
  obtain ⟨Ae, ce, rfl, hre⟩ := id hfa.e
  have hel := ha.e
  obtain ⟨W1, hW1⟩ : ∃ W1, w.alloc (.cells #[.int .i64 (n : Nat), .slice As a.start.length cs, .slice Af a.final.length cf, .slice Ae a.edges.length ce] 25) = W1 := ⟨_, rfl⟩
  have d1 : Below w.heap.size w W1 := hW1 ▸ alloc1 w _
  have b1 : W1.heap[w.heap.size]? = some (.cells #[.int .i64 (n : Nat), .slice As a.start.length cs, .slice Af a.final.length cf, .slice Ae a.edges.length ce] 25 (0, 0)) := by rw [← hW1]; exact heap_alloc_new w _
  have hlt1 : w.heap.size < W1.heap.size := by rw [← hW1]; simp
  obtain ⟨q0, q1, q2, q3⟩ := four b1
  have hfb := hfa.below d1 d1.size
  have kf := fun W (d : Below W1.heap.size W1 W) Am cm bs m (hml : m.length = n) hbm => rfree_ok a (.slice As a.start.length cs) (.slice Af a.final.length cf) (.slice Ae a.edges.length ce) Am cm bs m W (hfb.below d d.size) ha n hn hml hbm
  have km := fun W vl l hl hin hll => marked_ok a (.slice As a.start.length cs) (.slice Af a.final.length cf) (.slice Ae a.edges.length ce) vl l n W hn hnn hl hin hll ⟨_, _, _, rfl⟩ ⟨_, _, _, rfl⟩ ⟨_, _, _, rfl⟩
  have hff := fun W (d : Below W1.heap.size W1 W) => hfb.f.below d d.size
  have hfin : ∀ s ∈ a.final, 0 ≤ s ∧ s < n := fun s hs => by have := inb_final ha s hs; omega
  have hsame : cl n (a.pairs true (fun e => e.free)) (rs (marks n a.final)) = cl n (a.pairs true (fun e => e.free)) a.final := cl_same (rs_marks hfin)
  have hcin : ∀ l s, s ∈ cl n (a.pairs true (fun e => e.free)) l → 0 ≤ s ∧ s < n := fun l s hs => (mem_cl.1 hs).1
  have hfl := ha.f
  unfold vA at kf km ⊢
  rw [hn] at kf km ⊢
  have KF := Lib.hid kf
  have KM := Lib.hid km
  have KX := Lib.hid (And.intro hff (And.intro hfin (And.intro hsame (And.intro hcin (And.intro heb hre)))))
  clear kf km hff hfin hsame hcin heb hre hfb hfa hs1 hs2 hn
  go_enter Tryz.func89, Tryz.ntmps89
  go_wp2_with fail
  refine wp_region_auto 8 (by kernel_rfl) (fun w' => Below W1.heap.size W1 w') (fun a b => Below a.heap.size a b)
    (fun i v w' => match i with
      | 0 | 1 | 2 => v = .agg #[.int .i64 (n : Nat), .slice As a.start.length cs, .slice Af a.final.length cf, .slice Ae a.edges.length ce]
      | 3 => v = .pointer (some ⟨w.heap.size, 2, none⟩)
      | 4 => v = .slice Af a.final.length cf
      | 5 => ∃ b, v = .slice (some ⟨b, 0, none⟩) n n ∧ W1.heap.size ≤ b ∧ BRow w' b (marks n a.final)
      | 6 => ∃ A c, v = .slice A (cl n (a.pairs true (fun e => e.free)) a.final).length c ∧ Ints w' w'.heap.size (.slice A (cl n (a.pairs true (fun e => e.free)) a.final).length c) (cl n (a.pairs true (fun e => e.free)) a.final)
      | 7 => ∃ b, v = .slice (some ⟨b, 0, none⟩) n n ∧ W1.heap.size ≤ b ∧ BRow w' b (wk a n 0)
      | _ => True)
    ?fin1 ?hfin1 (by decide) (by kernel_rfl) (by kernel_rfl) (by kernel_rfl) ?hk1 (hW1 ▸ (Below.refl _ _).drew) ?hstep1 ?htail1
  case hfin1 =>
    intro f
    simp only [List.take_succ_cons, List.take_zero, putF, List.setIfInBounds_toArray, List.set_cons_zero, List.set_cons_succ]
    exact rfl
  case hk1 =>
    intro i v x y hxy h
    match i with
    | 0 | 1 | 2 | 3 | 4 => exact h
    | 5 => obtain ⟨b, h1, h2, h3⟩ := h; exact ⟨b, h1, h2, h3.below hxy⟩
    | 6 => obtain ⟨A, c, h1, h2⟩ := h; exact ⟨A, c, h1, h2.below hxy hxy.size⟩
    | 7 => obtain ⟨b, h1, h2, h3⟩ := h; exact ⟨b, h1, h2, h3.below hxy⟩
    | n + 8 => trivial
  case hstep1 =>
    intro f w'' hR
    obtain ⟨p0, p1, p2, p3⟩ := four (keepb b1 hR)
    refine ⟨?_, ?_, ?_, ?_, ?_, ?_, ?_, ?_, trivial⟩
    all_goals
      intro hA a1 K hK
      simp only [AfterAll, Region.binds, forall_const, and_true] at hA
    · go_simp
      exact hK _ _ hR (Below.refl _ _) rfl
    · go_simp
      exact hK _ _ hR (Below.refl _ _) rfl
    · go_simp
      exact hK _ _ hR (Below.refl _ _) rfl
    · go_simp
      exact hK _ _ hR (Below.refl _ _) rfl
    · go_simp
      exact hK _ _ hR (Below.refl _ _) rfl
    · obtain ⟨h2, h4⟩ := hA
      go_simp
      refine (KM.out w'' _ _ (KX.out.1 w'' hR) KX.out.2.1 hfl).mono ?_
      rintro e w2 ⟨⟨b, rfl, hb, hr⟩, d2⟩
      exact hK _ _ (below_next hR d2) d2 ⟨b, rfl, Nat.le_trans hR.size hb, hr⟩
    · obtain ⟨h1, ⟨b, h5, hb, hr⟩, _⟩ := hA
      go_simp
      refine (KF.out w'' hR _ n W1.heap.size _ (marks_len n _) ⟨fun _ => ⟨b, rfl, hb, hr.pre⟩⟩).mono ?_
      rintro e w2 ⟨v2, rfl, ho, d2⟩
      rw [KX.out.2.2.1] at ho
      have hs := ho.sl encI_len
      obtain ⟨A2, c2, rfl, _⟩ := ho.form
      exact hK _ _ (below_next hR d2) d2 ⟨A2, c2, rfl, hs⟩
    · obtain ⟨h0, ⟨A2, c2, h6, hs⟩, _⟩ := hA
      go_simp
      refine (KM.out w'' _ _ hs (KX.out.2.2.2.1 _) (Nat.le_trans (cl_len n _ _) (Nat.le_trans hnn (by decide)))).mono ?_
      rintro e w2 ⟨⟨b, rfl, hb, hr⟩, d2⟩
      exact hK _ _ (below_next hR d2) d2 ⟨b, rfl, Nat.le_trans hR.size hb, hr⟩
  case htail1 =>
  intro f w2 hR hP
  obtain ⟨bb, x7, hbb, hr7⟩ := hP 7 (by decide)
  rw [x7]
  clear hP x7 hW1 q0 q1 q2 q3
  go_wp2_with fail
  go_loopw [18, 5] (fun i v wr => ∃ (k b : Nat), k ≤ K ∧ i = .int .i64 k ∧ v = .slice (some ⟨b, 0, none⟩) n n ∧ W1.heap.size ≤ b ∧ BRow wr b (wk a n k) ∧ Below W1.heap.size W1 wr) (fun i _ _ => K - (intOf i).toNat)
  case atStart => exact ⟨0, bb, Nat.zero_le _, rfl, rfl, hbb, hr7, hR⟩
  case round =>
    obtain ⟨k, b, hk, rfl, rfl, hb0, hrow, hB⟩ := hrel
    clear hr7 hR hbb
    obtain ⟨wo, hwo⟩ : ∃ wo, wo = wr := ⟨_, rfl⟩
    subst hwo
    by_cases hlt : k < K
    · have hmk := wk_len a n k
      have hnx : marks n (cl n (a.pairs true (fun e => e.free)) (rs (more a.edges (wk a n k) (wk a n k)))) = wk a n (k + 1) := rfl
      have hi1 : (k : Int) < K := by omega
      have HN := Lib.hid hnx
      clear hnx
      generalize wk a n k = mk at *
      obtain ⟨i2, hi2, hz2, hs2', hb2'⟩ := info_parts info_bool
      have hBV : BV wo W1.heap.size (some ⟨b, 0, none⟩) mk := ⟨fun _ => ⟨b, rfl, hb0, hrow.pre⟩⟩
      have hsl := bv_sl hBV n
      rw [hmk] at hsl
      have hlt3 := Nat.lt_of_lt_of_le hlt1 hB.size
      have p3 := (hB.cell (p := ⟨w.heap.size, 3, none⟩) hlt1).trans (four b1).2.2.2
      have hbl := hrow.lt
      clear hBV
      go_wp2_with (at_builtin; refine wpList_append_my _ rfl (.tmp 20) (.tmp 21) 87 rfl encB_len' encB_one' 4 i2 _ Tryz.underlying87 hi2 hz2 hs2' hb2' rfl (by decide) (base := wo.heap.size) rfl (xs := []) (Own.nil _) rfl (ys := mk) (hsl.below ((Below.refl _ _).alloc (Nat.le_refl _) _) (Nat.le_refl _)) (by rw [List.length_nil, hmk]; omega) (by rw [List.length_nil, hmk]; omega) (Nat.le_of_lt (by simp)) ?_; intro v1 w1 hown1 hg1 hb1 hl1; simp only [List.nil_append] at hown1; obtain ⟨A1, c1, hv, hbv⟩ := bv_of_own hown1; rw [hmk] at hv; subst hv; have d2 : Below wo.heap.size wo w1 := ((Below.refl _ wo).alloc (Nat.le_refl _) _).trans hl1; have s3 := (d2.cell (p := ⟨w.heap.size, 3, none⟩) hlt3).trans p3)
      have hrow1 := hrow.below d2
      have hB1 := below_next hB d2
      have hBs := hB.size
      clear d2 hrow p3 hown1 hg1 hb1 hl1 hsl hi2 hz2 hs2' hb2' hB
      go_loopw [26] (fun i wr => ∃ j : Nat, j ≤ a.edges.length ∧ i = .int .i64 j ∧ BV wr wo.heap.size A1 (more (a.edges.take j) mk mk) ∧ BRow wr b mk ∧ Below W1.heap.size W1 wr) (fun i _ => a.edges.length - (intOf i).toNat)
      case atStart => exact ⟨0, Nat.zero_le _, rfl, hbv, hrow1, hB1⟩
      case round =>
        obtain ⟨j, hj, rfl, hM, hR2, hb2⟩ := hrel
        clear hbv hrow1 hB1 s3
        by_cases hlt2 : j < a.edges.length
        · obtain ⟨_, _, _, _, heb, hre⟩ := KX.out
          obtain ⟨eb, eo, rfl, heb2, hec⟩ := hre (by omega)
          obtain ⟨z0, z1, z2, z3, z4, z5, z6⟩ := cell7 hec hlt2
          have hE := heb _ (List.getElem_mem hlt2)
          have dd := below_next d1 hb2
          have y0 := (dd.cell (p := ⟨eb, eo + j * 7, none⟩) heb2).trans z0
          have y1 := (dd.cell (p := ⟨eb, eo + j * 7 + 1, none⟩) heb2).trans z1
          have y2 := (dd.cell (p := ⟨eb, eo + j * 7 + 2, none⟩) heb2).trans z2
          have y3 := (dd.cell (p := ⟨eb, eo + j * 7 + 3, none⟩) heb2).trans z3
          have y4 := (dd.cell (p := ⟨eb, eo + j * 7 + 4, none⟩) heb2).trans z4
          have y5 := (dd.cell (p := ⟨eb, eo + j * 7 + 5, none⟩) heb2).trans z5
          have y6 := (dd.cell (p := ⟨eb, eo + j * 7 + 6, none⟩) heb2).trans z6
          have hsw : more (a.edges.take (j + 1)) mk mk = _ := (congrArg (fun l => more l mk mk) (List.take_succ_eq_append_getElem hlt2)).trans (more_snoc (a.edges.take j) a.edges[j] mk mk)
          have hml2 := more_len (a.edges.take j) mk mk
          rw [hmk] at hml2
          clear z0 z1 z2 z3 z4 z5 z6 hec hre heb
          generalize a.edges[j] = ed at *
          obtain ⟨ex, ey, ef, eset⟩ := ed
          simp only at hE hsw y0 y1 y2 y3 y4 y5 y6
          obtain ⟨x, rfl⟩ : ∃ x : Nat, ex = x := ⟨ex.toNat, by omega⟩
          obtain ⟨y, rfl⟩ : ∃ y : Nat, ey = y := ⟨ey.toNat, by omega⟩
          obtain ⟨⟨_, hxn⟩, _, hyn⟩ := hE
          generalize more (a.edges.take j) mk mk = M at *
          have hxi : (x : Int) < n := by omega
          have hyi : (y : Int) < n := by omega
          obtain ⟨bt, rfl, hbt, hMb⟩ := hM.at_ (by omega)
          have cx := hMb.cell x (by omega)
          have cy := hR2.cell y (by omega)
          have fx := hMb.free x
          have hbl2 := hR2.lt
          have hbl3 := hMb.lt
          have hzb : W1.heap.size ≤ bt := Nat.le_trans hBs hbt
          have hne : b ≠ bt := by omega
          simp only [Int.toNat_natCast] at hsw
          have hba := hb2.trans ((alloc1 wr (.cells #[.int .i64 (x : Nat), .int .i64 (y : Nat), .bool ef, .int .u64 eset.w0.toNat, .int .u64 eset.w1.toNat, .int .u64 eset.w2.toNat, .int .u64 eset.w3.toNat] 73)).mono hb2.size)
          have hMa := hMb.below (alloc1 wr (.cells #[.int .i64 (x : Nat), .int .i64 (y : Nat), .bool ef, .int .u64 eset.w0.toNat, .int .u64 eset.w1.toNat, .int .u64 eset.w2.toNat, .int .u64 eset.w3.toNat] 73))
          have hRa := hR2.below (alloc1 wr (.cells #[.int .i64 (x : Nat), .int .i64 (y : Nat), .bool ef, .int .u64 eset.w0.toNat, .int .u64 eset.w1.toNat, .int .u64 eset.w2.toNat, .int .u64 eset.w3.toNat] 73))
          have hMs := hMb.set x true
          have hRs : BRow (wr.setCell ⟨bt, x, none⟩ (.bool true)) b mk := (Below.heap_setCell wr ⟨bt, x, none⟩ (.bool true) b hne).trans hR2
          have hbs := hb2.setCell (p := ⟨bt, x, none⟩) hzb (.bool true)
          have HRS := Lib.hid (And.intro hMs (And.intro hRs hbs))
          have HS := Lib.hid (And.intro hMa (And.intro hRa hba))
          clear hM hR2 hb2 hMb hMs hRs hbs hMa hRa hba dd
          cases ef with
          | true =>
            simp only [Bool.not_true, Bool.false_and, Bool.false_eq_true, if_false] at hsw
            have HW := Lib.hid (And.intro hsw hml2)
            clear hsw hml2 cx cy fx
            go_wp2_with fail
            go_roundw
            case rel => exact ⟨j + 1, by omega, by go_num, ⟨fun _ => ⟨bt, rfl, hbt, by rw [HW.out.1]; exact HS.out.1⟩⟩, HS.out.2.1, HS.out.2.2⟩
            case measure => simp [intOf]; omega
          | false =>
            cases hmy : mk.getD y false with
            | false =>
              rw [hmy] at cy
              simp only [hmy, Bool.and_false, Bool.false_eq_true, if_false] at hsw
              have HW := Lib.hid (And.intro hsw (And.intro hml2 hmy))
              clear hsw hml2 hmy cx fx
              go_wp2_with fail
              go_roundw
              case rel => exact ⟨j + 1, by omega, by go_num, ⟨fun _ => ⟨bt, rfl, hbt, by rw [HW.out.1]; exact HS.out.1⟩⟩, HS.out.2.1, HS.out.2.2⟩
              case measure => simp [intOf]; omega
            | true =>
              rw [hmy] at cy
              simp only [hmy, Bool.not_false, Bool.and_self, if_true] at hsw
              have HW := Lib.hid (And.intro hsw (And.intro hml2 hmy))
              clear hsw hml2 hmy
              generalize M.getD x false = old at *
              go_wp2_with fail
              go_roundw
              case rel => exact ⟨j + 1, by omega, by go_num, ⟨fun _ => ⟨bt, rfl, hbt, by rw [HW.out.1]; exact HRS.out.1.below (alloc1 _ _)⟩⟩, HRS.out.2.1.below (alloc1 _ _), HRS.out.2.2.trans ((alloc1 _ _).mono HRS.out.2.2.size)⟩
              case measure => simp [intOf]; omega
        · have hje : j = a.edges.length := by omega
          subst hje
          rw [List.take_length] at hM
          have hml2 := more_len a.edges mk mk
          rw [hmk] at hml2
          have hN := HN.out
          have bq := keepb b1 hb2
          clear hR2
          generalize more a.edges mk mk = M at *
          have HN2 := Lib.hid hN
          clear hN
          go_wp2_with fail
          refine wp_region_auto 5 (by kernel_rfl) (fun w' => Below wr.heap.size wr w') (fun a b => Below a.heap.size a b)
            (fun i v w' => match i with
              | 0 | 1 => v = .agg #[.int .i64 (n : Nat), .slice As a.start.length cs, .slice Af a.final.length cf, .slice Ae a.edges.length ce]
              | 2 => v = .slice A1 n c1
              | 3 => ∃ A c, v = .slice A (cl n (a.pairs true (fun e => e.free)) (rs M)).length c ∧ Ints w' w'.heap.size (.slice A (cl n (a.pairs true (fun e => e.free)) (rs M)).length c) (cl n (a.pairs true (fun e => e.free)) (rs M))
              | 4 => ∃ b, v = .slice (some ⟨b, 0, none⟩) n n ∧ W1.heap.size ≤ b ∧ BRow w' b (wk a n (k + 1))
              | _ => True)
            ?fin2 ?hfin2 (by decide) (by kernel_rfl) (by kernel_rfl) (by kernel_rfl) ?hk2 (Below.refl _ _).drew ?hstep2 ?htail2
          case hfin2 =>
            intro f
            simp only [List.take_succ_cons, List.take_zero, putF, List.setIfInBounds_toArray, List.set_cons_zero, List.set_cons_succ]
            exact rfl
          case hk2 =>
            intro i v x y hxy h
            match i with
            | 0 | 1 | 2 => exact h
            | 3 => obtain ⟨A, c, h1, h2⟩ := h; exact ⟨A, c, h1, h2.below hxy hxy.size⟩
            | 4 => obtain ⟨b, h1, h2, h3⟩ := h; exact ⟨b, h1, h2, h3.below hxy⟩
            | n + 5 => trivial
          case hstep2 =>
            intro f w'' hR
            obtain ⟨p0, p1, p2, p3⟩ := four (keepb bq hR)
            refine ⟨?_, ?_, ?_, ?_, ?_, trivial⟩
            all_goals
              intro hA a1 K hK
              simp only [AfterAll, Region.binds, forall_const, and_true] at hA
            · go_simp
              exact hK _ _ hR (Below.refl _ _) rfl
            · go_simp
              exact hK _ _ hR (Below.refl _ _) rfl
            · go_simp
              exact hK _ _ hR (Below.refl _ _) rfl
            · obtain ⟨h1, h2⟩ := hA
              go_simp
              refine (KF.out w'' (below_next hb2 hR) A1 c1 wo.heap.size M hml2 (hM.below hR)).mono ?_
              rintro e w2 ⟨v2, rfl, ho, d2⟩
              have hs := ho.sl encI_len
              obtain ⟨A2, c2, rfl, _⟩ := ho.form
              exact hK _ _ (below_next hR d2) d2 ⟨A2, c2, rfl, hs⟩
            · obtain ⟨h0, ⟨A2, c2, h3, hs⟩, _⟩ := hA
              go_simp
              refine (KM.out w'' _ _ hs (KX.out.2.2.2.1 _) (Nat.le_trans (cl_len n _ _) (Nat.le_trans hnn (by decide)))).mono ?_
              rintro e w2 ⟨⟨b, rfl, hb, hr⟩, d2⟩
              rw [HN2.out] at hr
              exact hK _ _ (below_next hR d2) d2 ⟨b, rfl, Nat.le_trans hb2.size (Nat.le_trans hR.size hb), hr⟩
          case htail2 =>
          intro f w2 hR hP
          obtain ⟨b4, x4, hb4, hr4⟩ := hP 4 (by decide)
          rw [x4]
          clear hP x4 bq hM
          go_wp2_with fail
          go_roundw
          case rel => exact ⟨k + 1, b4, by omega, by go_num, rfl, hb4, hr4, below_next hb2 hR⟩
          case measure => simp [intOf]; omega
    · have hkk : k = K := by omega
      subst hkk
      have HX := Lib.hid hrow
      clear hrow
      go_wp2_with fail
      go_ret
      exact ⟨b, rfl, Nat.le_trans d1.size hb0, HX.out, below_next d1 hB⟩
end Go.Proofs.YtakldmbbmefnbaaGreat
/- the reference's words: First. -/
namespace Go.Proofs.YtakldmbbmefnbaaGreat
open Go.RowKit Go.Sort Go.Proofs
set_option maxRecDepth 100000
set_option maxHeartbeats 4000000

theorem cat_pair (v w : List UInt8) : (ByteArray.mk v.toArray) ++ (ByteArray.mk w.toArray) = ⟨(v ++ w).toArray⟩ := by
  apply ByteArray.ext
  simp
theorem rfirst_ok (a : A) (vs vf ve : Value) (w : World) (hfa : FaAt w w.heap.size a vs vf ve) (ha : Fit a) (n : Nat) (hn : a.states = n) (fw : List UInt8) (Rv : Value)
    (hcase : (IsFirst a n fw ∧ Rv = .tuple #[encStr fw, .bool true]) ∨ ((∀ w, ¬ a.takes w) ∧ Rv = .tuple #[.string ⟨#[]⟩, .bool false])) :
    Calls Tryz.prog 32 #[vA a vs vf ve] w (fun r w' => r = .returned Rv ∧ Below w.heap.size w w') := by
  have hnn : n ≤ 1000 := by have := ha.n; omega
  obtain ⟨M, hM, hlow, hhit, hnone⟩ : ∃ M, M ≤ n + 1 ∧ (∀ k, k < M → metB (wk a n k) (a.clo a.start) = false) ∧ (M ≤ n → metB (wk a n M) (a.clo a.start) = true ∧ IsFirst a n fw ∧ M = fw.length ∧ Rv = .tuple #[encStr fw, .bool true]) ∧ (n < M → Rv = .tuple #[.string ⟨#[]⟩, .bool false]) := by
    rcases hcase with ⟨h, hR⟩ | ⟨h, hR⟩
    · have hs := h.short
      refine ⟨fw.length, by omega, fun k hk => ?_, fun _ => ⟨(first_length ha hn h _).2 (Nat.le_refl _), h, rfl, hR⟩, fun h => absurd h (by omega)⟩
      rw [← Bool.not_eq_true, first_length ha hn h]
      omega
    · exact ⟨n + 1, Nat.le_refl _, fun k _ => none_met ha hn h k, fun h => absurd h (by omega), fun _ => hR⟩
  obtain ⟨As, cs, rfl, _⟩ := id hfa.s
  obtain ⟨Af, cf, rfl, _⟩ := id hfa.f
  obtain ⟨Ae, ce, rfl, _⟩ := id hfa.e
  obtain ⟨W1, hW1⟩ : ∃ W1, w.alloc (.cells #[.int .i64 (n : Nat), .slice As a.start.length cs, .slice Af a.final.length cf, .slice Ae a.edges.length ce] 25) = W1 := ⟨_, rfl⟩
  have d1 : Below w.heap.size w W1 := hW1 ▸ alloc1 w _
  have b1 : W1.heap[w.heap.size]? = some (.cells #[.int .i64 (n : Nat), .slice As a.start.length cs, .slice Af a.final.length cf, .slice Ae a.edges.length ce] 25 (0, 0)) := by rw [← hW1]; exact heap_alloc_new w _
  have hfb := hfa.below d1 d1.size
  have kc := fun W (d : Below W1.heap.size W1 W) => rclosure_ok a (.slice As a.start.length cs) (.slice Af a.final.length cf) (.slice Ae a.edges.length ce) _ a.start W (hfb.below d d.size) ha (hfb.s.below d d.size) (inb_start ha) ha.s
  have kw := fun W (d : Below W1.heap.size W1 W) K hK => rwithin_ok a (.slice As a.start.length cs) (.slice Af a.final.length cf) (.slice Ae a.edges.length ce) K W (hfb.below d d.size) ha n hn hK
  have ks := fun W (d : Below W1.heap.size W1 W) vl l b (hb : b < 256) (hl : Ints W W.heap.size vl l) (hin : Inb a l) (hll : l.length ≤ 1000000) => rstep_ok a (.slice As a.start.length cs) (.slice Af a.final.length cf) (.slice Ae a.edges.length ce) vl l b hb W (hfb.below d d.size) ha hl hin hll
  have hci : ∀ s ∈ a.clo a.start, 0 ≤ s ∧ s < n := fun s hs => by have := inb_clo ha a.start s hs; omega
  have hcl : (a.clo a.start).length ≤ 1000000 := Nat.le_trans (A.clo_len ha _) (by decide)
  unfold vA at kc kw ks ⊢
  rw [hn] at kc kw ks ⊢
  have KC := Lib.hid kc
  have KW := Lib.hid kw
  have KS := Lib.hid ks
  have KL := Lib.hid (And.intro hlow (And.intro hhit hnone))
  have KI := Lib.hid (And.intro hci hcl)
  clear kc kw ks hlow hhit hnone hfb hfa hcase hci hcl
  have hwkl := wk_len a n
  have KN := Lib.hid hwkl
  clear hwkl
  have hst0 : a.clo a.start = a.after (fw.take 0) := rfl
  have KA := Lib.hid hst0
  clear hst0
  go_enter Tryz.func32, Tryz.ntmps32
  go_wp2_with fail
  go_loopw [4] (fun i wr => ∃ k : Nat, k ≤ M ∧ i = .int .i64 k ∧ Below W1.heap.size W1 wr) (fun i _ => M - (intOf i).toNat)
  case atStart => exact ⟨0, Nat.zero_le _, rfl, hW1 ▸ Below.refl _ _⟩
  case round =>
    obtain ⟨k, hk, rfl, hB⟩ := hrel
    clear hW1
    by_cases hkn : k ≤ n
    · have hkn' : (k : Int) ≤ n := by omega
      generalize hmb : metB (wk a n k) (a.clo a.start) = mb at *
      have HMB := Lib.hid hmb
      clear hmb
      have KIo := KI.out
      generalize a.clo a.start = st0 at *
      have KI2 := Lib.hid KIo
      clear KIo
      have hdk : decide ((k : Int) ≤ n) = true := decide_eq_true hkn'
      go_wp2_with fail
      refine wp_region_gauto 15 (by kernel_rfl) (fun w' => Below wr.heap.size wr w') (fun a b => Below a.heap.size a b)
        (fun i v w' => match i with
          | 0 | 10 => v = .int .i64 (k : Nat)
          | 1 => v = .pointer (some ⟨w.heap.size, 0, none⟩)
          | 2 => v = .int .i64 (n : Nat)
          | 3 | 4 => v = .bool true
          | 5 | 9 => v = .agg #[.int .i64 (n : Nat), .slice As a.start.length cs, .slice Af a.final.length cf, .slice Ae a.edges.length ce]
          | 6 => v = .pointer (some ⟨w.heap.size, 1, none⟩)
          | 7 => v = .slice As a.start.length cs
          | 8 => ∃ A c, v = .slice A st0.length c ∧ Ints w' w'.heap.size (.slice A st0.length c) st0
          | 11 => ∃ b, v = .slice (some ⟨b, 0, none⟩) n n ∧ BRow w' b (wk a n k)
          | 12 => v = .bool mb
          | 13 | 14 => v = .bool (!mb)
          | _ => True)
        ?fin1 ?hfin1 (by decide) (by kernel_rfl) (by kernel_rfl) (by kernel_rfl) ?hk1 (Below.refl _ _).drew ?hstep1 ?htail1
      case hfin1 =>
        intro f
        simp only [List.take_succ_cons, List.take_zero, putF, List.setIfInBounds_toArray, List.set_cons_zero, List.set_cons_succ]
        exact rfl
      case hk1 =>
        intro i v x y hxy h
        match i with
        | 0 | 1 | 2 | 3 | 4 | 5 | 6 | 7 | 9 | 10 | 12 | 13 | 14 => exact h
        | 8 => obtain ⟨A, c, h1, h2⟩ := h; exact ⟨A, c, h1, h2.below hxy hxy.size⟩
        | 11 => obtain ⟨b, h1, h2⟩ := h; exact ⟨b, h1, h2.below hxy⟩
        | n + 15 => trivial
      case hstep1 =>
        intro f w'' hR
        have hdw := below_next hB hR
        obtain ⟨p0, p1, p2, p3⟩ := four (keepb b1 hdw)
        refine ⟨?_, ?_, ?_, ?_, ?_, ?_, ?_, ?_, ?_, ?_, ?_, ?_, ?_, ?_, ?_, trivial⟩
        all_goals
          intro hA a1 K hK
          simp only [AfterAll, Region.binds, forall_const, and_true] at hA
          try rw [if_pos (show Region.wanted _ _ = true by simp [Region.wanted, yielded, hA])]
        · go_simp
          exact hK _ _ hR (Below.refl _ _) rfl
        · go_simp
          exact hK _ _ hR (Below.refl _ _) rfl
        · go_simp
          exact hK _ _ hR (Below.refl _ _) rfl
        · go_simp
          exact hK _ _ hR (Below.refl _ _) (by first | rfl | rw [hdk])
        · go_simp
          exact hK _ _ hR (Below.refl _ _) rfl
        · go_simp
          exact hK _ _ hR (Below.refl _ _) rfl
        · go_simp
          exact hK _ _ hR (Below.refl _ _) rfl
        · go_simp
          exact hK _ _ hR (Below.refl _ _) rfl
        · go_simp
          refine (KC.out w'' hdw).mono ?_
          rintro e w2 ⟨v2, rfl, ho, d2⟩
          have hs := ho.sl encI_len
          obtain ⟨A2, c2, rfl, _⟩ := ho.form
          exact hK _ _ (below_next hR d2) d2 ⟨A2, c2, rfl, hs⟩
        · go_simp
          exact hK _ _ hR (Below.refl _ _) rfl
        · go_simp
          exact hK _ _ hR (Below.refl _ _) rfl
        · go_simp
          refine (KW.out w'' hdw k (by omega)).mono ?_
          rintro e w2 ⟨b, rfl, _, hr, d2⟩
          exact hK _ _ (below_next hR d2) d2 ⟨b, rfl, hr⟩
        · obtain ⟨⟨A2, c2, x8, hs⟩, ⟨b, x11, hr⟩, _⟩ := hA
          go_simp
          refine (rmeets_ok (some ⟨b, 0, none⟩) n 0 _ (wk a n k) n st0 w'' (KN.out k) ⟨fun _ => ⟨b, rfl, Nat.zero_le _, hr.pre⟩⟩ hs KI2.out.1 KI2.out.2).mono ?_
          rintro e w2 ⟨rfl, rfl⟩
          rw [HMB.out]
          exact hK _ _ hR (Below.refl _ _) rfl
        · go_simp
          exact hK _ _ hR (Below.refl _ _) rfl
        · go_simp
          exact hK _ _ hR (Below.refl _ _) rfl
      case htail1 =>
      intro f w2 hR hP
      have x14 : f 14 = _ := hP 14 (by decide)
      rw [x14]
      clear hP x14
      obtain ⟨p0, p1, p2, p3⟩ := four (keepb b1 (below_next hB hR))
      have hKL := KL.out
      have hMB := HMB.out
      cases mb with
      | false =>
        have hlt : k < M := by
          rcases Nat.lt_or_ge k M with h | h
          · exact h
          · have : k = M := by omega
            subst this
            have h2 := (hKL.2.1 hkn).1
            rw [hMB] at h2
            cases h2
        clear hKL hMB
        go_wp2_with fail
        go_roundw
        case rel => exact ⟨k + 1, by omega, by go_num, below_next hB hR⟩
        case measure => simp [intOf]; omega
      | true =>
        have hkM : k = M := by
          rcases Nat.lt_or_ge k M with h | h
          · have h2 := hKL.1 k h
            rw [hMB] at h2
            cases h2
          · omega
        subst hkM
        obtain ⟨_, hf, hkl, hRv⟩ := hKL.2.1 hkn
        have HF := Lib.hid (And.intro hf (And.intro hkl hRv))
        clear hKL hMB hf hkl hRv
        have hnk : ¬ (n : Int) < (k : Int) := by omega
        go_wp2_with fail
        refine (KC.out w2 (below_next hB hR)).mono ?_
        rintro e w3 ⟨v3, rfl, ho3, d3⟩
        have hs3 := ho3.sl encI_len
        obtain ⟨A3, c3, rfl, _⟩ := ho3.form
        have hB3 := below_next (below_next hB hR) d3
        have e0 := KA.out
        subst e0
        have hkl := HF.out.2.1
        clear ho3 d3 p0 p1 p2 p3
        go_wp2_with fail
        go_loopw [7, 6, 5] (fun u s v wq => ∃ (i : Nat) (A : Option Addr) (c : Nat), i ≤ fw.length ∧ u = .int .i64 ((fw.length : Int) - i - 1) ∧ s = encStr (fw.take i) ∧ v = .slice A (a.after (fw.take i)).length c ∧ Ints wq wq.heap.size (.slice A (a.after (fw.take i)).length c) (a.after (fw.take i)) ∧ Below W1.heap.size W1 wq) (fun u _ _ _ => (intOf u + 1).toNat)
        case atStart => exact ⟨0, A3, c3, Nat.zero_le _, by go_num, rfl, rfl, hs3, hB3⟩
        case round =>
          obtain ⟨i, A5, c5, hi, rfl, rfl, rfl, hs5, hB5⟩ := hrel
          clear hs3 hB3 hB hR
          obtain ⟨p0, p1, p2, p3⟩ := four (keepb b1 hB5)
          by_cases hlt : i < fw.length
          · obtain ⟨kk, hkk⟩ : ∃ kk : Nat, kk = fw.length - i - 1 := ⟨_, rfl⟩
            have e1 : (fw.length : Int) - i - 1 = (kk : Nat) := by omega
            rw [e1]
            have hk0 : (0 : Int) ≤ (kk : Nat) := by omega
            have hkw := KW.out wr hB5 kk (by have := HF.out.2.1; omega)
            have HKK := Lib.hid hkk
            clear hkk e1
            go_wp2_with fail
            refine hkw.mono ?_
            rintro e w4 ⟨bw, rfl, _, hrw, d4⟩
            have hs6 := hs5.below d4 d4.size
            have hB6 := below_next hB5 d4
            clear hs5 hB5 hkw d4
            go_wp2_with fail
            have hfin : ∀ c : UInt8, c.toNat ≤ fw[i].toNat → metB (wk a n kk) (a.step (a.after (fw.take i)) c.toNat) = decide (c = fw[i]) := fun c hc => first_next ha hn HF.out.1 hlt (by have := HKK.out; omega) c hc
            have hin7 : Inb a (a.after (fw.take i)) := after_inb ha _
            have hln7 := (A.after_in ha (fw.take i)).2
            have hin8 : ∀ c : Nat, ∀ s ∈ a.step (a.after (fw.take i)) c, 0 ≤ s ∧ s < n := fun c s hs => by have := inb_step ha _ _ s hs; omega
            have hln8 : ∀ c : Nat, (a.step (a.after (fw.take i)) c).length ≤ 1000000 := fun c => Nat.le_trans (A.clo_len ha _) (by decide)
            have hst7 := fun W d vl c hc hl => KS.out W d vl (a.after (fw.take i)) c hc hl hin7 (by omega)
            have hend : a.step (a.after (fw.take i)) fw[i].toNat = a.after (fw.take (i + 1)) := by rw [List.take_succ_eq_append_getElem hlt, after_snoc]
            have hcat : (ByteArray.mk (fw.take i).toArray) ++ (ByteArray.mk [fw[i]].toArray) = ⟨(fw.take (i + 1)).toArray⟩ := by rw [List.take_succ_eq_append_getElem hlt]; exact cat_pair _ _
            have hrow6 : ∃ row6, row6 = a.after (fw.take (i + 1)) := ⟨_, rfl⟩
            obtain ⟨row6, hrow6⟩ := hrow6
            have hwd6 : ∃ wd6, wd6 = ByteArray.mk (fw.take (i + 1)).toArray := ⟨_, rfl⟩
            obtain ⟨wd6, hwd6⟩ := hwd6
            rw [← hrow6] at hend
            rw [← hwd6] at hcat
            have HEN := Lib.hid (And.intro hrow6 hwd6)
            clear hrow6 hwd6
            have hkl2 : (wk a n kk).length = n := KN.out kk
            generalize hstp : (fun c : Nat => a.step (a.after (fw.take i)) c) = stp
            have hstp2 : ∀ c, a.step (a.after (fw.take i)) c = stp c := fun c => congrFun hstp c
            simp only [hstp2] at hfin hin8 hln8 hst7 hend
            clear hstp hstp2
            unfold encStr
            have hwds : (ByteArray.mk (fw.take i).toArray).size ≤ 1000 := by
              have := HF.out.1.short
              show (fw.take i).toArray.size ≤ 1000
              rw [List.size_toArray, List.length_take]; omega
            have hkk9 : (kk : Int) ≤ 1000 := by have := HKK.out; have := HF.out.1.short; omega
            generalize a.after (fw.take i) = row5 at *
            generalize ByteArray.mk (fw.take i).toArray = wd5 at *
            generalize htop : fw[i] = top at *
            generalize wk a n kk = mk at *
            have HH := Lib.hid (And.intro hfin (And.intro hin8 (And.intro hln8 (And.intro hst7 (And.intro hend (And.intro hcat hkl2))))))
            clear hfin hin8 hln8 hst7 hend hcat hkl2 hin7 hln7 htop
            go_loopw [45, 6, 5] (fun u s v wq => ∃ c : Nat, c ≤ top.toNat ∧ u = .int .i64 c ∧ s = .string wd5 ∧ v = .slice A5 row5.length c5 ∧ Ints wq wq.heap.size (.slice A5 row5.length c5) row5 ∧ BRow wq bw mk ∧ Below W1.heap.size W1 wq) (fun u _ _ _ => 256 - (intOf u).toNat)
            case atStart => exact ⟨0, Nat.zero_le _, rfl, rfl, rfl, hs6, hrw, hB6⟩
            case round =>
              obtain ⟨c, hc, rfl, rfl, rfl, hs7, hr7, hB7⟩ := hrel
              clear hs6 hrw hB6
              have htl := top.toNat_lt
              have hc2 : (c : Int) < 256 := by omega
              obtain ⟨p0, p1, p2, p3⟩ := four (keepb b1 hB7)
              have hst := HH.out.2.2.2.1 _ hB7 _ c (by omega) hs7
              go_wp2_with fail
              refine hst.mono ?_
              rintro e w8 ⟨v8, rfl, ho8, d8⟩
              have hs8 := ho8.sl encI_len
              obtain ⟨A8, c8, rfl, _⟩ := ho8.form
              have hr8 := hr7.below d8
              have hs9 := hs7.below d8 d8.size
              have hB8 := below_next hB7 d8
              have hmeet := rmeets_ok (some ⟨bw, 0, none⟩) n 0 _ mk n _ w8 HH.out.2.2.2.2.2.2 ⟨fun _ => ⟨bw, rfl, Nat.zero_le _, hr8.pre⟩⟩ hs8 (HH.out.2.1 c) (HH.out.2.2.1 c)
              clear hst hs7 hr7 hB7 ho8 d8 p0 p1 p2 p3
              by_cases hce : c = top.toNat
              · subst hce
                have hfin := HH.out.1 top (Nat.le_refl _)
                rw [decide_eq_true rfl] at hfin
                rw [hfin] at hmeet
                have hend := HH.out.2.2.2.2.1
                have hcat := HH.out.2.2.2.2.2.1
                rw [hend] at hmeet hs8 ⊢
                have hwm : IntKind.u8.wrap (top.toNat : Int) = top.toNat := by show (top.toNat : Int) % 256 = top.toNat; omega
                have hcv : Sem.run Tryz.prog (convert 39 9 (.slice (some ⟨w8.heap.size, 0, none⟩) 1 1)) (w8.alloc (.cells #[.int .u8 top.toNat] 5)) = .ok (encStr [top]) (w8.alloc (.cells #[.int .u8 top.toNat] 5)) :=
                  conv_back (base := w8.heap.size) (v := .slice (some ⟨w8.heap.size, 0, none⟩) 1 1) (xs := [top]) (.inr ⟨w8.heap.size, 1, _, rfl, Nat.le_refl _, by decide, by simp, by decide, heap_alloc_new w8 _, by simp, rfl⟩)
                unfold encStr at hcv
                clear hfin hend
                go_wp2_with fail
                refine hmeet.mono ?_
                rintro e w9 ⟨rfl, rfl⟩
                clear hmeet
                go_wp2_with fail
                go_roundw
                case rel =>
                  obtain ⟨e6, ew⟩ := HEN.out
                  subst e6; subst ew
                  exact ⟨i + 1, A8, c8, by omega, congrArg (Value.int IntKind.i64) (by have := HKK.out; omega), rfl, rfl, hs8.below (alloc1 _ _) (alloc1 _ _).size, below_next hB8 (alloc1 _ _)⟩
                case measure => simp [intOf]
              · have hltc : c < top.toNat := by omega
                have hfin := HH.out.1 (UInt8.ofNat c) (by rw [UInt8.toNat_ofNat']; omega)
                rw [UInt8.toNat_ofNat', Nat.mod_eq_of_lt (by omega), decide_eq_false (by intro h; apply hce; rw [← h, UInt8.toNat_ofNat', Nat.mod_eq_of_lt (by omega)])] at hfin
                rw [hfin] at hmeet
                clear hfin hce
                go_wp2_with fail
                refine hmeet.mono ?_
                rintro e w9 ⟨rfl, rfl⟩
                clear hmeet
                go_wp2_with fail
                go_roundw
                case rel => exact ⟨c + 1, by omega, by go_num, rfl, rfl, hs9, hr8, hB8⟩
                case measure => simp [intOf]; omega
          · have : i = fw.length := by omega
            subst this
            have hneg : ¬ (0 : Int) ≤ (fw.length : Int) - fw.length - 1 := by omega
            go_wp2_with fail
            go_ret2
            exact ⟨by rw [HF.out.2.2]; rfl, below_next d1 hB5⟩
    · have hkM : k = M := by omega
      subst hkM
      have hRv := KL.out.2.2 (by omega)
      subst hRv
      have hdk : decide ((k : Int) ≤ n) = false := decide_eq_false (by omega)
      have hkn' : ¬ (k : Int) ≤ n := by omega
      have hnk : (n : Int) < (k : Int) := by omega
      go_wp2_with fail
      refine wp_region_gauto 15 (by kernel_rfl) (fun w' => Below wr.heap.size wr w') (fun a b => Below a.heap.size a b)
        (fun i v w' => match i with
          | 0 => v = .int .i64 (k : Nat)
          | 1 => v = .pointer (some ⟨w.heap.size, 0, none⟩)
          | 2 => v = .int .i64 (n : Nat)
          | 3 | 4 | 14 => v = .bool false
          | _ => True)
        ?fin2 ?hfin2 (by decide) (by kernel_rfl) (by kernel_rfl) (by kernel_rfl) ?hk2 (Below.refl _ _).drew ?hstep2 ?htail2
      case hfin2 =>
        intro f
        simp only [List.take_succ_cons, List.take_zero, putF, List.setIfInBounds_toArray, List.set_cons_zero, List.set_cons_succ]
        exact rfl
      case hk2 =>
        intro i v x y hxy h
        match i with
        | 0 | 1 | 2 | 3 | 4 | 14 => exact h
        | 5 | 6 | 7 | 8 | 9 | 10 | 11 | 12 | 13 => trivial
        | n + 15 => trivial
      case hstep2 =>
        intro f w'' hR
        have hdw := below_next hB hR
        obtain ⟨p0, p1, p2, p3⟩ := four (keepb b1 hdw)
        refine ⟨?_, ?_, ?_, ?_, ?_, ?_, ?_, ?_, ?_, ?_, ?_, ?_, ?_, ?_, ?_, trivial⟩
        all_goals
          intro hA a1 K hK
          simp only [AfterAll, Region.binds, forall_const, and_true] at hA
        · rw [if_pos (show Region.wanted _ _ = true by first | rfl | simp [Region.wanted, yielded, hA])]
          go_simp
          exact hK _ _ hR (Below.refl _ _) rfl
        · rw [if_pos (show Region.wanted _ _ = true by first | rfl | simp [Region.wanted, yielded, hA])]
          go_simp
          exact hK _ _ hR (Below.refl _ _) rfl
        · rw [if_pos (show Region.wanted _ _ = true by first | rfl | simp [Region.wanted, yielded, hA])]
          go_simp
          exact hK _ _ hR (Below.refl _ _) rfl
        · rw [if_pos (show Region.wanted _ _ = true by first | rfl | simp [Region.wanted, yielded, hA])]
          go_simp
          exact hK _ _ hR (Below.refl _ _) (by first | rfl | rw [hdk])
        · rw [if_pos (show Region.wanted _ _ = true by first | rfl | simp [Region.wanted, yielded, hA])]
          go_simp
          exact hK _ _ hR (Below.refl _ _) rfl
        iterate 9
          · rw [if_neg (show ¬ Region.wanted _ _ = true by simp [Region.wanted, yielded, hA])]
            exact hK _ _ hR (Below.refl _ _) trivial
        · rw [if_pos (show Region.wanted _ _ = true by first | rfl | simp [Region.wanted, yielded, hA])]
          go_simp
          exact hK _ _ hR (Below.refl _ _) rfl
      case htail2 =>
      intro f w2 hR hP
      have x14 : f 14 = _ := hP 14 (by decide)
      rw [x14]
      clear hP x14
      obtain ⟨p0, p1, p2, p3⟩ := four (keepb b1 (below_next hB hR))
      go_wp2_with fail
      go_ret2
      exact ⟨rfl, below_next d1 (below_next hB hR)⟩
end Go.Proofs.YtakldmbbmefnbaaGreat
/- the statement WalkGoes: there; the reference's words, as it asks them. -/
namespace Go.Proofs.YtakldmbbmefnbaaGreat
open Go.RowKit Go.Sort Go.Proofs
set_option maxRecDepth 100000
set_option maxHeartbeats 1000000

theorem there_pred (b : Nat) (st : Int) (w : World) (hc : w.cell? ⟨b, 0, none⟩ = some (.int .i64 st)) :
    Pred1 Tryz.prog (fun x => .int .i64 x) (.func (.func 59) #[] #[pw b]) (fun _ => True) (fun s => !inB st s) w := by
  refine ⟨_, _, rfl, Tryz.call59, fun W x _ hb => ?_⟩
  have hc1 := (hb.cell (p := ⟨b, 0, none⟩) (World.block_lt_of_cell? _ _ hc)).trans hc
  show Calls Tryz.prog 59 #[.int .i64 x, pw b] W (fun r W' => r = .returned (.bool (!inB st x)) ∧ Below W.heap.size W W')
  clear hb hc
  have hin : inB st x = (decide (0 ≤ x) && decide (x < st)) := rfl
  have HI := Lib.hid hin
  clear hin
  by_cases h0 : x < 0
  · go_enter Tryz.func59, Tryz.ntmps59
    go_wp2
    go_ret
    refine ⟨?_, Below.refl _ _⟩
    have : inB st x = false := by rw [HI.out]; simp; omega
    rw [this]; rfl
  · by_cases h1 : st ≤ x
    · go_enter Tryz.func59, Tryz.ntmps59
      go_wp2
      go_ret
      refine ⟨?_, Below.refl _ _⟩
      have : inB st x = false := by rw [HI.out]; simp; omega
      simp [this]
    · go_enter Tryz.func59, Tryz.ntmps59
      go_wp2
      go_ret
      refine ⟨?_, Below.refl _ _⟩
      have : inB st x = true := by rw [HI.out]; simp; omega
      simp [this]
theorem there_law (a : A) (vs vf ve vl : Value) (l : List Int) (w : World) (hfa : FaAt w w.heap.size a vs vf ve) (hl : Ints w w.heap.size vl l) (hll : l.length ≤ 1000000) :
    Calls Tryz.prog 13 #[vA a vs vf ve, vl] w (fun r w' => r = .returned (.bool (l.all (inB a.states))) ∧ Below w.heap.size w w') := by
  obtain ⟨As, cs, rfl, _⟩ := id hfa.s
  obtain ⟨Af, cf, rfl, _⟩ := id hfa.f
  obtain ⟨Ae, ce, rfl, _⟩ := id hfa.e
  obtain ⟨A0, c0, rfl, _⟩ := id hl
  obtain ⟨W1, hW1⟩ : ∃ W1, w.alloc (.cells #[.int .i64 a.states, .slice As a.start.length cs, .slice Af a.final.length cf, .slice Ae a.edges.length ce] 25) = W1 := ⟨_, rfl⟩
  have d1 : Below w.heap.size w W1 := hW1 ▸ alloc1 w _
  have q0 : W1.cell? ⟨w.heap.size, 0, none⟩ = some (.int .i64 a.states) := by rw [← hW1, cell_new]; rfl
  have hp := there_pred w.heap.size a.states W1 q0
  have hc := containsFunc_int _ _ l (fun _ => True) _ W1 (hl.below d1 d1.size) hp (fun _ _ => trivial) hll
  rw [any_not] at hc
  unfold vA
  generalize l.all (inB a.states) = res at *
  clear hfa hl hp q0
  go_enter Tryz.func13, Tryz.ntmps13
  go_wp2_with (go_at_call 55; refine hc.mono ?_; rintro x w3 ⟨rfl, d3⟩)
  go_ret
  refine ⟨?_, below_next d1 d3⟩
  cases res <;> rfl

/-- A row of numbers that is handed back. -/
def GaveInts (w' : World) (r : Ending) (l : List Int) : Prop := ∃ A c, r = .returned (.slice A l.length c) ∧ Ints w' w'.heap.size (.slice A l.length c) l
theorem gave_of {w w' : World} {r : Ending} {l : List Int} (h : ∃ v', r = .returned v' ∧ Own encI 1 3 w' w.heap.size v' l ∧ Below w.heap.size w w') : GaveInts w' r l ∧ Below w.heap.size w w' := by
  obtain ⟨v, rfl, ho, hb⟩ := h
  have hs := ho.sl encI_len
  obtain ⟨A, c, rfl, _⟩ := ho.form
  exact ⟨⟨A, c, rfl, hs⟩, hb⟩
section
variable (a : A) (vs vf ve vl : Value) (l : List Int) (w : World) (hfa : FaAt w w.heap.size a vs vf ve) (ha : Fit a) (hl : Ints w w.heap.size vl l) (hin : Inb a l) (hll : l.length ≤ 1000000)
include hfa ha
include hl hin hll in
theorem rclosure_gave : Calls Tryz.prog 14 #[vA a vs vf ve, vl] w (fun r w' => GaveInts w' r (a.clo l) ∧ Below w.heap.size w w') := (rclosure_ok a vs vf ve vl l w hfa ha hl hin hll).mono (fun _ _ h => gave_of h)
include hl hin hll in
theorem rreach_gave : Calls Tryz.prog 15 #[vA a vs vf ve, vl, .bool false] w (fun r w' => GaveInts w' r (a.reach l) ∧ Below w.heap.size w w') := (rreach_ok false a vs vf ve vl l w hfa ha hl hin hll).mono (fun _ _ h => gave_of h)
theorem ralive_gave (hf : Ints w w.heap.size vf a.final) : Calls Tryz.prog 15 #[vA a vs vf ve, vf, .bool true] w (fun r w' => GaveInts w' r a.alive ∧ Below w.heap.size w w') := (rreach_ok true a vs vf ve vf a.final w hfa ha hf (inb_final ha) ha.f).mono (fun _ _ h => gave_of h)
theorem rlive_gave : Calls Tryz.prog 16 #[vA a vs vf ve] w (fun r w' => GaveInts w' r a.live ∧ Below w.heap.size w w') := (rlive_ok a vs vf ve w hfa ha).mono (fun _ _ h => gave_of h)
include hl hin hll in
theorem rstep_gave (b : Nat) (hb : b < 256) : Calls Tryz.prog 22 #[vA a vs vf ve, .int .i64 b, vl] w (fun r w' => GaveInts w' r (a.step l b) ∧ Below w.heap.size w w') := (rstep_ok a vs vf ve vl l b hb w hfa ha hl hin hll).mono (fun _ _ h => gave_of h)
end
theorem same_eq2 (v v' : Value) (l : List Int) (W : World) (h : Ints W W.heap.size v l) (h' : Ints W W.heap.size v' l) (hn : l.length ≤ 1000000) :
    Calls Tryz.prog 21 #[v, v'] W (fun r w' => r = .returned (.bool true) ∧ Below W.heap.size W w') := same_eq v v' l l W h h' hn rfl

/-- How far one has come: the arguments' block, the automaton's, the row of numbers. -/
structure GSt (w : World) (b : Nat) (x a : A) (us uf ue vs vf ve v8 : Value) (l : List Int) (W : World) : Prop where
  d : Below w.heap.size w W
  x : W.heap[w.heap.size]? = some (.cells #[.int .i64 x.states, us, uf, ue] 25 (0, 0))
  a : In5 W b a vs vf ve
  l : Ints W W.heap.size v8 l
theorem GSt.next {w : World} {b : Nat} {x a : A} {us uf ue vs vf ve v8 : Value} {l : List Int} {W W' : World} (h : GSt w b x a us uf ue vs vf ve v8 l W) (d : Below W.heap.size W W') : GSt w b x a us uf ue vs vf ve v8 l W' :=
  ⟨below_next h.d d, keepb h.x d, h.a.next d, h.l.below d d.size⟩
/-- Rows of numbers that lie as they lay. -/
structure IA (W : World) (ps : List (Value × List Int)) : Prop where
  h : ∀ p ∈ ps, Ints W W.heap.size p.1 p.2
theorem IA.next {W W' : World} {ps : List (Value × List Int)} (h : IA W ps) (d : Below W.heap.size W W') : IA W' ps := ⟨fun p hp => (h.h p hp).below d d.size⟩
theorem IA.nil (W : World) : IA W [] := ⟨by simp⟩
theorem IA.add {W : World} {ps : List (Value × List Int)} (h : IA W ps) {v : Value} {l : List Int} (hv : Ints W W.heap.size v l) : IA W ((v, l) :: ps) := ⟨fun p hp => by
  rcases List.mem_cons.1 hp with rfl | hp
  · exact hv
  · exact h.h p hp⟩
end Go.Proofs.YtakldmbbmefnbaaGreat
/- slices.EqualFunc on rows of rows, as WalkTakes asks it. -/
namespace Go.Proofs.YtakldmbbmefnbaaGreat
open Go.RowKit Go.Sort Go.Proofs
set_option maxRecDepth 100000
set_option maxHeartbeats 4000000

theorem eqRows_one (v v' : Value) (l : List Int) (W : World) (h : Ints W W.heap.size v l) (h' : Ints W W.heap.size v' l) (hn : l.length ≤ 1000000) :
    Calls Tryz.prog 29 #[v, v'] W (fun r w' => r = .returned (.bool true) ∧ Below W.heap.size W w') := by
  have hs := same_eq2 v v' l W h h' hn
  obtain ⟨A, c, rfl, _⟩ := id h
  obtain ⟨A', c', rfl, _⟩ := id h'
  clear h h'
  go_enter Tryz.func29, Tryz.ntmps29
  go_wp2_with fail
  refine hs.mono ?_
  rintro e w1 ⟨rfl, d1⟩
  clear hs
  go_wp2_with fail
  go_ret
  exact ⟨rfl, d1⟩

theorem equalFunc_rows (b b' n c c' : Nat) (ls : List (List Int)) (W : World) (h : RowsAt W b ls) (h' : RowsAt W b' ls) (hl : ls.length = n) (hn : n ≤ 1000000) (hs : ∀ l ∈ ls, l.length ≤ 1000000) :
    Calls Tryz.prog 27 #[.slice (some ⟨b, 0, none⟩) n c, .slice (some ⟨b', 0, none⟩) n c', .func (.func 29) #[] #[]] W (fun r w' => r = .returned (.bool true) ∧ Below W.heap.size W w') := by
  have HX := Lib.hid (And.intro hl (And.intro hs (And.intro h h')))
  clear hl hs h h'
  go_enter Tryz.func27, Tryz.ntmps27
  go_wp2_with fail
  go_loopw [17] (fun i wr => ∃ k : Nat, k ≤ n ∧ i = .int .i64 k ∧ Below W.heap.size W wr) (fun i _ => n - (intOf i).toNat)
  case atStart => exact ⟨0, Nat.zero_le _, rfl, Below.refl _ _⟩
  case round =>
    obtain ⟨k, hk, rfl, hB⟩ := hrel
    by_cases hlt : k < n
    · obtain ⟨hl, hs, h, h'⟩ := HX.out
      have hkl : k < ls.length := by omega
      obtain ⟨A1, n1, c1, x1, y1⟩ := (h.next hB).at_ k hkl
      obtain ⟨A2, n2, c2, x2, y2⟩ := (h'.next hB).at_ k hkl
      have he := eqRows_one _ _ _ wr y1 y2 (hs _ (List.getElem_mem hkl))
      clear hl hs h h' y1 y2
      go_wp2_with fail
      refine he.mono ?_
      rintro e w1 ⟨rfl, d1⟩
      clear he
      go_wp2_with fail
      go_roundw
      case rel => exact ⟨k + 1, by omega, by go_num, below_next hB d1⟩
      case measure => simp [intOf]; omega
    · go_wp2_with fail
      go_ret
      exact ⟨rfl, hB⟩
end Go.Proofs.YtakldmbbmefnbaaGreat
/- How arguments that came in read: an automaton, a slice of numbers, of strings. -/
namespace Go.Proofs.YtakldmbbmefnbaaGreat
open Go.RowKit Go.ChangeShapes Go.WideShapes Go.ChangeAt Go.Joins Go.Deep
set_option maxRecDepth 100000

def encSt (l : List UInt8) : List Value := [encStr l]
abbrev Strs (w : World) (B : Nat) (v : Value) (xs : List (List UInt8)) : Prop := Sl encSt 1 w B v xs

theorem sl_open {α : Type} [Inhabited α] {enc : α → List Value} {size : Nat} (hsz : 0 < size) (henc : ∀ x, (enc x).length = size) {w : World} {base : Nat} {a : Addr} {len cap : Nat} (D : α → Prop)
    (h : ∀ i, i < len → ∃ x : α, D x ∧ w.cells? base (a.add (i * size)) size = some (enc x)) : ∃ xs : List α, xs.length = len ∧ (∀ x ∈ xs, D x) ∧ Sl enc size w w.heap.size (.slice (some a) len cap) xs := by
  obtain ⟨f, hf⟩ := choose_lt h
  refine ⟨(List.range len).map f, by simp, fun x hx => ?_, some a, cap, by simp, fun h0 => ?_⟩
  · obtain ⟨i, hi, rfl⟩ := List.mem_map.1 hx
    exact (hf i (List.mem_range.1 hi)).1
  · simp at h0
    have key : ∀ i, i < len → ∀ j, j < size → w.cell? ((a.add (i * size)).add j) = (enc (f i))[j]? := fun i hi j hj => (World.cells?_some (hf i hi).2).2.2 j hj
    have k0 := key 0 h0 0 hsz
    rw [List.getElem?_eq_getElem (by rw [henc]; exact hsz)] at k0
    have hsp := World.cell?_spot k0
    have hlt := World.block_lt_of_cell? _ _ k0
    obtain ⟨b, o, sp⟩ := a
    have hsp : sp = none := by simpa [Addr.add] using hsp
    subst hsp
    refine ⟨b, o, rfl, by simpa [Addr.add] using hlt, fun i x hx j u hu => ?_⟩
    have hi : i < len := by
      have := (List.getElem?_eq_some_iff.1 hx).1
      simpa using this
    have hxf : f i = x := by
      rw [List.getElem?_map, List.getElem?_range hi] at hx
      simpa using hx
    have hj : j < size := by
      have := (List.getElem?_eq_some_iff.1 hu).1
      rwa [henc] at this
    have := key i hi j hj
    rw [hxf, hu] at this
    have ha : ((⟨b, o, none⟩ : Addr).add (i * size)).add j = ⟨b, o + i * size + j, none⟩ := by rw [add_plain, add_plain]
    rwa [ha] at this

section
variable {H : Type} {enc : TypeId × Value → H} {w : World} {fuel : Nat} {cs : List Value} {x : DataW H × List MemPlace}

theorem cells_edge : Tryz.prog.cellsOf 73 = 7 := by kernel_rfl
theorem cells_int : Tryz.prog.cellsOf 3 = 1 := by kernel_rfl
theorem cells_u64 : Tryz.prog.cellsOf 67 = 1 := by kernel_rfl
theorem cells_set : Tryz.prog.cellsOf 69 = 4 := by kernel_rfl
theorem cells_bool : Tryz.prog.cellsOf 4 = 1 := by kernel_rfl
theorem cells_fa : Tryz.prog.cellsOf 25 = 4 := by kernel_rfl

theorem open_edge (h : DataW.trod enc Tryz.prog w 0 (fun _ => true) true fuel 73 cs = some x) : ∃ e : E, cs = encE e := by
  obtain ⟨y0, y1, y2, y3, n, _, hl, h0, h1, h2, h3⟩ := trod_struct4 Tryz.underlying73 h
  rw [cells_edge] at hl
  match cs, hl with
  | [c0, c1, c2, c3, c4, c5, c6], _ =>
    simp only [cells_int, cells_bool, cells_set, List.drop_zero, List.drop_succ_cons, List.take_succ_cons, List.take_zero] at h0 h1 h2 h3
    obtain ⟨n0, e0, _⟩ := DataW.trod_int Tryz.underlying3 h0
    obtain ⟨n1, e1, _⟩ := DataW.trod_int Tryz.underlying3 h1
    obtain ⟨b2, e2, _⟩ := DataW.trod_bool Tryz.underlying4 h2
    obtain ⟨xs, m, _, _, hl3, hlen, hx⟩ := DataW.trod_array Tryz.underlying69 h3
    have word : ∀ (i : Nat) (c : Value), i < 4 → [c3, c4, c5, c6][i]? = some c → ∃ v : BitVec 64, c = .int .u64 (v.toNat : Int) := by
      intro i c hi hc
      have hxi := hx i hi
      have hlt : i < xs.length := by omega
      rw [cells_u64, Nat.mul_one, List.getElem?_eq_getElem hlt] at hxi
      have ht : (List.drop i [c3, c4, c5, c6]).take 1 = [c] := by
        match i, hi, hc with
        | 0, _, hc => simp at hc; simp [hc]
        | 1, _, hc => simp at hc; simp [hc]
        | 2, _, hc => simp at hc; simp [hc]
        | 3, _, hc => simp at hc; simp [hc]
      rw [ht] at hxi
      obtain ⟨z, hz, _, hwf⟩ := DataW.trod_int Tryz.underlying67 hxi
      have hb := bounds_u64 hwf
      simp at hz
      refine ⟨BitVec.ofNat 64 z.toNat, ?_⟩
      rw [hz]
      congr 1
      rw [BitVec.toNat_ofNat]
      omega
    obtain ⟨w0, rfl⟩ := word 0 c3 (by decide) rfl
    obtain ⟨w1, rfl⟩ := word 1 c4 (by decide) rfl
    obtain ⟨w2, rfl⟩ := word 2 c5 (by decide) rfl
    obtain ⟨w3, rfl⟩ := word 3 c6 (by decide) rfl
    simp at e0 e1 e2
    subst e0; subst e1; subst e2
    exact ⟨⟨n0, n1, b2, ⟨w0, w1, w2, w3⟩⟩, rfl⟩

/-- A slice of numbers that came in. -/
theorem open_ints_sl (h : DataW.trod enc Tryz.prog w 0 (fun _ => true) true fuel 22 cs = some x) : ∃ A cap, ∃ xs : List Int, cs = [.slice A xs.length cap] ∧ xs.length ≤ cap ∧ cap ≤ maxLen ∧ Ints w w.heap.size (.slice A xs.length cap) xs := by
  rcases open_slice1 Tryz.underlying22 cells_int h with ⟨rfl, _⟩ | ⟨a, len, cap, m, n, V, D, Pl, rfl, _, hl, hm, hmm, _, hx⟩
  · exact ⟨none, 0, [], rfl, by simp, by simp, Sl.nil none 0⟩
  · simp only [if_true] at hmm
    subst hmm
    obtain ⟨xs, hxl, _, hs⟩ := sl_open (enc := encI) (size := 1) (by decide) encI_len (w := w) (base := 0) (a := a) (len := len) (cap := m) (fun _ => True) (fun i hi => by
      obtain ⟨hc, ht⟩ := hx i (by omega)
      obtain ⟨z, hz, _⟩ := DataW.trod_int Tryz.underlying3 ht
      simp at hz
      rw [hz] at hc
      refine ⟨z, trivial, ?_⟩
      rw [Nat.mul_one]
      exact cells?_one (Nat.zero_le _) hc)
    subst hxl
    exact ⟨some a, m, xs, rfl, hl, hm, hs⟩

/-- A slice of edges that came in. -/
theorem open_edges_sl (h : DataW.trod enc Tryz.prog w 0 (fun _ => true) true fuel 23 cs = some x) : ∃ A cap, ∃ xs : List E, cs = [.slice A xs.length cap] ∧ xs.length ≤ cap ∧ cap ≤ maxLen ∧ Edges w w.heap.size (.slice A xs.length cap) xs := by
  rcases open_slice Tryz.underlying23 h with ⟨rfl, _⟩ | ⟨a, len, cap, m, n, D, Pl, rfl, _, hl, hm, hmm, _, hx⟩
  · exact ⟨none, 0, [], rfl, by simp, by simp, Sl.nil none 0⟩
  · simp only [if_true] at hmm
    subst hmm
    haveI : Inhabited E := ⟨⟨0, 0, false, ⟨0, 0, 0, 0⟩⟩⟩
    obtain ⟨xs, hxl, _, hs⟩ := sl_open (enc := encE) (size := 7) (by decide) encE_len (w := w) (base := 0) (a := a) (len := len) (cap := m) (fun _ => True) (fun i hi => by
      obtain ⟨cs', hc, ht⟩ := hx i (by omega)
      rw [cells_edge] at hc
      obtain ⟨e, rfl⟩ := open_edge ht
      exact ⟨e, trivial, hc⟩)
    subst hxl
    exact ⟨some a, m, xs, rfl, hl, hm, hs⟩

theorem cells_str : Tryz.prog.cellsOf 9 = 1 := by kernel_rfl
/-- A slice of strings that came in. -/
theorem open_strs_sl (h : DataW.trod enc Tryz.prog w 0 (fun _ => true) true fuel 44 cs = some x) : ∃ A cap, ∃ xs : List (List UInt8), cs = [.slice A xs.length cap] ∧ xs.length ≤ cap ∧ cap ≤ maxLen ∧ (∀ x ∈ xs, x.length ≤ maxLen) ∧ Strs w w.heap.size (.slice A xs.length cap) xs := by
  rcases open_slice1 Tryz.underlying44 cells_str h with ⟨rfl, _⟩ | ⟨a, len, cap, m, n, V, D, Pl, rfl, _, hl, hm, hmm, _, hx⟩
  · exact ⟨none, 0, [], rfl, by simp, by simp, by simp, Sl.nil none 0⟩
  · simp only [if_true] at hmm
    subst hmm
    obtain ⟨xs, hxl, hd, hs⟩ := sl_open (enc := encSt) (size := 1) (by decide) (fun _ => rfl) (w := w) (base := 0) (a := a) (len := len) (cap := m) (fun l => l.length ≤ maxLen) (fun i hi => by
      obtain ⟨hc, ht⟩ := hx i (by omega)
      obtain ⟨s, hz, _, hsz⟩ := DataW.trod_string Tryz.underlying9 ht
      simp at hz
      rw [hz] at hc
      refine ⟨s.data.toList, by simpa using hsz, ?_⟩
      rw [Nat.mul_one]
      exact cells?_one (Nat.zero_le _) hc)
    subst hxl
    exact ⟨some a, m, xs, rfl, hl, hm, hd, hs⟩

/-- An automaton that came in. -/
theorem open_fa {r : Reach} {b0 : Nat} {v : Value} {d : DataW H} {p : List MemPlace} (hv : Value.okWide Tryz.prog w r b0 25 v) (h : DataW.Trod enc Tryz.prog w 0 (fun _ => true) true 25 v d p) :
    ∃ (a : A) (As Af Ae : Option Addr) (cs cf ce : Nat), v = vA a (.slice As a.start.length cs) (.slice Af a.final.length cf) (.slice Ae a.edges.length ce) ∧ FaAt w w.heap.size a (.slice As a.start.length cs) (.slice Af a.final.length cf) (.slice Ae a.edges.length ce) ∧
      a.start.length ≤ cs ∧ a.final.length ≤ cf ∧ a.edges.length ≤ ce ∧ cs ≤ maxLen ∧ cf ≤ maxLen ∧ ce ≤ maxLen ∧ (Lit.int .i64 a.states).wf = true := by
  obtain ⟨v0, v1, v2, v3, y0, y1, y2, y3, n, rfl, _, _, h0, h1, h2, h3⟩ := open_agg4 Tryz.underlying25 (by kernel_rfl) cells_fa hv h
  obtain ⟨st, e0, _, hwf⟩ := DataW.trod_int Tryz.underlying3 h0
  obtain ⟨As, cs, xs, e1, l1, m1, s1⟩ := open_ints_sl h1
  obtain ⟨Af, cf, ys, e2, l2, m2, s2⟩ := open_ints_sl h2
  obtain ⟨Ae, ce, zs, e3, l3, m3, s3⟩ := open_edges_sl h3
  simp at e0 e1 e2 e3
  subst e0; subst e1; subst e2; subst e3
  exact ⟨⟨st, xs, ys, zs⟩, As, Af, Ae, cs, cf, ce, rfl, ⟨s1, s2, s3⟩, l1, l2, l3, m1, m2, m3, hwf⟩
end
end Go.Proofs.YtakldmbbmefnbaaGreat
/- the statement WalkTakes: the walk. -/
namespace Go.Proofs.YtakldmbbmefnbaaGreat
open Go.RowKit Go.Sort Go.Proofs
set_option maxRecDepth 100000
set_option maxHeartbeats 8000000

theorem cut12 (x : List UInt8) : (ByteArray.mk x.toArray).extract 0 (min (x.length : Int) 12).toNat = ⟨(x.take 12).toArray⟩ := by
  have h : (min (x.length : Int) 12).toNat = min x.length 12 := by omega
  rw [h]
  apply ByteArray.ext
  simp [ByteArray.data_extract, take_min]
theorem str_at {w : World} {B : Nat} {A : Option Addr} {n c : Nat} {xs : List (List UInt8)} (h : Strs w B (.slice A n c) xs) (h0 : 0 < xs.length) : ∃ b o, A = some ⟨b, o, none⟩ ∧ b < B ∧ ∀ k (hk : k < xs.length), w.cell? ⟨b, o + k, none⟩ = some (encStr xs[k]) := by
  obtain ⟨A', c', hv, hr⟩ := h
  cases hv
  obtain ⟨b, o, rfl, hb, hc⟩ := hr h0
  refine ⟨b, o, rfl, hb, fun k hk => ?_⟩
  have := hc k xs[k] (List.getElem?_eq_getElem hk) 0 (encStr xs[k]) rfl
  simpa using this
theorem takes_bad (a : A) (vs vf ve : Value) (word : List UInt8) (w : World) (hfa : FaAt w w.heap.size a vs vf ve) (hs : Small a) (hok : a.ok = false) (hwl : word.length ≤ 1000000) :
    Calls Tryz.prog 26 #[vA a vs vf ve, encStr word] w (fun r w' => r = .returned (.tuple #[.bool false, .int .i64 260]) ∧ Below w.heap.size w w') := by
  refine (Takes_ok a vs vf ve word w hfa hs hwl).mono ?_
  rintro r w' ⟨h, hb⟩
  unfold TakesEnd at h
  rw [if_neg (by rw [hok]; decide)] at h
  exact ⟨h, hb⟩
/-- First, the program's. -/
def FirstSaid (a : A) (fw : ByteArray) (se : Int) : Prop := ∃ word : List UInt8, fw = ⟨word.toArray⟩ ∧ ((IsFirst a a.states.toNat word ∧ se = 0) ∨ ((∀ w, ¬ a.takes w) ∧ word = [] ∧ se = 4))
theorem first_said (a : A) (vs vf ve : Value) (w : World) (hfa : FaAt w w.heap.size a vs vf ve) (hs : Small a) (hok : a.ok = true) :
    Calls Tryz.prog 31 #[vA a vs vf ve] w (fun r w' => (∃ fw se, r = .returned (.tuple #[.string fw, .int .i64 se]) ∧ FirstSaid a fw se) ∧ Below w.heap.size w w') := by
  by_cases hw : ∃ w, a.takes w
  · refine (first_some a vs vf ve w hfa hs hok hw).mono ?_
    rintro r w' ⟨⟨word, rfl, hi⟩, hb⟩
    exact ⟨⟨_, 0, rfl, word, rfl, .inl ⟨hi, rfl⟩⟩, hb⟩
  · refine (first_none a vs vf ve w hfa hs hok hw).mono ?_
    rintro r w' ⟨rfl, hb⟩
    exact ⟨⟨_, 4, rfl, [], rfl, .inr ⟨fun x hx => hw ⟨x, hx⟩, rfl, rfl⟩⟩, hb⟩
/-- The document's, at the same word. -/
def FirstTold (P : Program) (m : Nat) (a : A) (fw : ByteArray) (sb : Bool) : Prop := 
  ∀ vs vf ve W, FaAt W W.heap.size a vs vf ve → Calls P m #[.agg #[.int .i64 a.states, vs, vf, ve]] W (fun r w' => r = .returned (.tuple #[.string fw, .bool sb]) ∧ Below W.heap.size W w')
theorem first_told (a : A) (hs : Small a) (hok : a.ok = true) (fw : ByteArray) (se : Int) (h : FirstSaid a fw se) : ∃ sb, FirstTold Tryz.prog 32 a fw sb ∧ ((se = 0 ∧ sb = true) ∨ (se = 4 ∧ sb = false)) := by
  have hfit := hs.fit hok
  have hn : a.states = (a.states.toNat : Nat) := by
    have h0 : 0 ≤ a.states := by simp [A.ok] at hok; exact hok.1.1.1
    omega
  obtain ⟨word, rfl, ⟨hi, rfl⟩ | ⟨hno, rfl, rfl⟩⟩ := h
  · exact ⟨true, fun vs vf ve W h => rfirst_ok a vs vf ve W h hfit _ hn word _ (.inl ⟨hi, rfl⟩), .inl ⟨rfl, rfl⟩⟩
  · exact ⟨false, fun vs vf ve W h => rfirst_ok a vs vf ve W h hfit _ hn [] _ (.inr ⟨hno, rfl⟩), .inr ⟨rfl, rfl⟩⟩
theorem walkTakes_bad (a : A) (As Af Ae Aw : Option Addr) (cs cf ce cw : Nat) (words : List (List UInt8)) (w : World) (hfa : FaAt w w.heap.size a (.slice As a.start.length cs) (.slice Af a.final.length cf) (.slice Ae a.edges.length ce))
    (h1 : a.start.length ≤ cs) (h2 : a.final.length ≤ cf) (h3 : a.edges.length ≤ ce) (h4 : cs ≤ maxLen) (h5 : cf ≤ maxLen) (h6 : ce ≤ maxLen) (hok : a.few.ok = false) (hvw : Strs w w.heap.size (.slice Aw words.length cw) words) (hwl : words.length ≤ maxLen) (hwb : ∀ x ∈ words, x.length ≤ maxLen) :
    Calls Tryz.prog 4 #[vA a (.slice As a.start.length cs) (.slice Af a.final.length cf) (.slice Ae a.edges.length ce), .slice Aw words.length cw] w (fun r w' => r = .returned (.bool true) ∧ Below w.heap.size w w') := by
  obtain ⟨W1, hW1⟩ : ∃ W1, w.alloc (.cells #[.int .i64 a.states, .slice As a.start.length cs, .slice Af a.final.length cf, .slice Ae a.edges.length ce] 25) = W1 := ⟨_, rfl⟩
  have d1 : Below w.heap.size w W1 := hW1 ▸ alloc1 w _
  have b1 : W1.heap[w.heap.size]? = some (.cells #[.int .i64 a.states, .slice As a.start.length cs, .slice Af a.final.length cf, .slice Ae a.edges.length ce] 25 (0, 0)) := by rw [← hW1]; exact heap_alloc_new w _
  have hfew := fun W (h : Below w.heap.size w W) => few_ok a As Af Ae cs cf ce W (hfa.below h h.size) h1 h2 h3 h4 h5 h6
  have hsm := a.few_small
  have htr := fun vs vf ve word W h => trace_bad a.few vs vf ve word W h hsm hok
  have hta := fun vs vf ve word W h => takes_bad a.few vs vf ve word W h hsm hok
  have hfi := fun vs vf ve W h => first_bad a.few vs vf ve W h hsm hok
  have hri := fun vs vf ve W h => rright_ok a.few vs vf ve W h hsm.short
  rw [hok] at hri
  unfold vA at hfew htr hta hfi hri ⊢
  generalize a.few = a' at *
  clear h1 h2 h3 h4 h5 h6 hfa hok
  have HFEW := Lib.hid hfew
  clear hfew
  go_enter Tryz.func4, Tryz.ntmps4
  go_wp2_with fail
  refine (wakes_ok _).mono ?_
  rintro e w2 ⟨rfl, d2⟩
  have e1 := keepb b1 d2
  obtain ⟨q0, q1, q2, q3⟩ := four e1
  have dw2 := below_next d1 d2
  clear d1 d2 b1 hW1
  go_wp2_with fail
  refine (HFEW.out _ dw2).mono ?_
  rintro e w3 ⟨⟨vs, vf, ve, rfl, o1, o2, o3⟩, d3⟩
  obtain ⟨A1, c1, rfl, _⟩ := o1.form
  obtain ⟨A2, c2, rfl, _⟩ := o2.form
  obtain ⟨A3, c3, rfl, _⟩ := o3.form
  have h5 := in5_new w3 a' _ _ _ o1 o2 o3
  obtain ⟨W5, hW5⟩ : ∃ W5, w3.alloc (.cells #[.int .i64 a'.states, .slice A1 a'.start.length c1, .slice A2 a'.final.length c2, .slice A3 a'.edges.length c3] 25) = W5 := ⟨_, rfl⟩
  have d5 : Below w3.heap.size w3 W5 := hW5 ▸ alloc1 w3 _
  have e5 := keepb (keepb e1 d3) d5
  have D5 := below_next (below_next dw2 d3) d5
  rw [hW5] at h5
  clear dw2 d3 o1 o2 o3 q0 q1 q2 q3 e1 d5
  obtain ⟨q0, q1, q2, q3⟩ := four h5.h
  go_wp2_with fail
  clear hW5
  refine (hri _ _ _ W5 h5.fa).mono ?_
  rintro e W6 ⟨rfl, d⟩
  replace h5 := h5.next d
  replace e5 := keepb e5 d
  replace D5 := below_next D5 d
  clear d q0 q1 q2 q3
  unfold maxLen at hwl
  go_wp2_with fail
  go_loopw [26] (fun i wr => ∃ k : Nat, k ≤ words.length ∧ i = .int .i64 k ∧ Below W6.heap.size W6 wr) (fun i _ => words.length - (intOf i).toNat)
  case atStart => exact ⟨0, Nat.zero_le _, rfl, Below.refl _ _⟩
  case round =>
    obtain ⟨k, hk, rfl, hb⟩ := hrel
    replace h5 := h5.next hb
    replace e5 := keepb e5 hb
    have D6 := below_next D5 hb
    by_cases hlt6 : k < words.length ∧ k ≠ 6
    · obtain ⟨hlt, hk6⟩ := hlt6
      have h6f : ((k : Int) == 6) = false := by rw [beq_eq_false_iff_ne]; omega
      have hlt' : (k : Int) < words.length := by omega
      clear hk6
      obtain ⟨bw, ow, rfl, hbw, hcw⟩ := str_at hvw (by omega)
      have hc := (D6.cell (p := ⟨bw, ow + k, none⟩) hbw).trans (hcw k hlt)
      have hxl := hwb _ (List.getElem_mem hlt)
      unfold maxLen at hxl
      generalize words[k] = x at hc hxl
      obtain ⟨q0, q1, q2, q3⟩ := four h5.h
      obtain ⟨y, hy⟩ : ∃ y, y = x.take 12 := ⟨_, rfl⟩
      have hx8 : (ByteArray.mk x.toArray).extract 0 (min (x.length : Int) 12).toNat = ⟨y.toArray⟩ := by rw [hy]; exact cut12 x
      have hyl : y.length ≤ 12 := by rw [hy, List.length_take]; omega
      clear hcw hy hwb
      have ht1 := htr _ _ _ y wr h5.fa (by omega)
      go_wp2_with fail
      refine ht1.mono ?_
      rintro e w7 ⟨rfl, d7⟩
      replace h5 := h5.next d7
      replace hb := below_next hb d7
      clear d7 ht1 q0 q1 q2 q3 hx8
      obtain ⟨q0, q1, q2, q3⟩ := four h5.h
      have ht2 := hta _ _ _ y w7 h5.fa (by omega)
      go_wp2_with fail
      refine ht2.mono ?_
      rintro e w8 ⟨rfl, d8⟩
      replace hb := below_next hb d8
      clear d8 ht2 q0 q1 q2 q3 htr hta
      go_wp2_with fail
      go_roundw
      case rel => exact ⟨k + 1, by omega, by go_num, hb⟩
      case measure => simp [intOf]; omega
    · by_cases hlt : k < words.length
      · have hk6 : k = 6 := by omega
        subst hk6
        obtain ⟨bw, ow, rfl, hbw, hcw⟩ := str_at hvw (by omega)
        have hc := (D6.cell (p := ⟨bw, ow + 6, none⟩) hbw).trans (hcw 6 hlt)
        clear hcw
        have hlt' : ((6 : Nat) : Int) < words.length := by omega
        generalize words[6] = x at hc
        clear hlt
        replace D5 := D6
        clear D6 hvw hwb htr hta hlt6 hb hri
        obtain ⟨q0, q1, q2, q3⟩ := four h5.h
        go_wp2_with fail
        refine (hfi _ _ _ wr h5.fa).mono ?_
        rintro e w7 ⟨rfl, d⟩
        replace h5 := h5.next d
        replace e5 := keepb e5 d
        replace D5 := below_next D5 d
        clear d q0 q1 q2 q3 hfi
        go_wp2_with fail
        refine wp_region_gauto 14 (by kernel_rfl) (fun w' => Below w7.heap.size w7 w') (fun a b => Below a.heap.size a b)
          (fun i v w' => match i with
            | 0 | 1 => v = .string ⟨#[]⟩
            | 2 | 3 | 6 | 7 | 8 | 12 | 13 => v = .bool true
            | 4 | 5 => v = .int .i64 260
            | 9 => v = .agg #[.int .i64 a'.states, .slice A1 a'.start.length c1, .slice A2 a'.final.length c2, .slice A3 a'.edges.length c3]
            | 10 => v = .agg #[.int .i64 a.states, .slice As a.start.length cs, .slice Af a.final.length cf, .slice Ae a.edges.length ce]
            | 11 => ∃ B1 e1 B2 e2 B3 e3, v = .agg #[.int .i64 a'.states, .slice B1 a'.start.length e1, .slice B2 a'.final.length e2, .slice B3 a'.edges.length e3] ∧ FaAt w' w'.heap.size a' (.slice B1 a'.start.length e1) (.slice B2 a'.final.length e2) (.slice B3 a'.edges.length e3)
            | _ => True)
          ?finbx ?hfinbx (by decide) (by kernel_rfl) (by kernel_rfl) (by kernel_rfl) ?hkbx ((Below.refl _ _).drew) ?hstepbx ?htailbx
        case hfinbx =>
          intro f
          simp only [List.take_succ_cons, List.take_zero, putF, List.setIfInBounds_toArray, List.set_cons_zero, List.set_cons_succ]
          exact rfl
        case hkbx =>
          intro i v x y hxy h
          match i with
          | 0 | 1 | 2 | 3 | 4 | 5 | 6 | 7 | 8 | 9 | 10 | 12 | 13 => exact h
          | 11 => obtain ⟨B1, e1, B2, e2, B3, e3, h1, h2⟩ := h; exact ⟨B1, e1, B2, e2, B3, e3, h1, h2.below hxy hxy.size⟩
          | n + 14 => trivial
        case hstepbx =>
          intro f w'' hR
          have h5 := h5.next hR
          have e5 := keepb e5 hR
          have D5 := below_next D5 hR
          obtain ⟨q0, q1, q2, q3⟩ := four h5.h
          obtain ⟨p0, p1, p2, p3⟩ := four e5
          refine ⟨?_, ?_, ?_, ?_, ?_, ?_, ?_, ?_, ?_, ?_, ?_, ?_, ?_, ?_, trivial⟩
          all_goals
            intro hA a1 K hK
            simp only [AfterAll, Region.binds, forall_const, and_true] at hA
          · rw [if_pos (show Region.wanted _ _ = true by first | rfl | simp [Region.wanted, yielded, hA])]
            go_simp
            exact hK _ _ hR (Below.refl _ _) rfl
          · rw [if_pos (show Region.wanted _ _ = true by first | rfl | simp [Region.wanted, yielded, hA])]
            go_simp
            exact hK _ _ hR (Below.refl _ _) rfl
          · rw [if_pos (show Region.wanted _ _ = true by first | rfl | simp [Region.wanted, yielded, hA])]
            go_simp
            exact hK _ _ hR (Below.refl _ _) (by first | rfl | simp)
          · rw [if_pos (show Region.wanted _ _ = true by first | rfl | simp [Region.wanted, yielded, hA])]
            go_simp
            exact hK _ _ hR (Below.refl _ _) rfl
          · rw [if_pos (show Region.wanted _ _ = true by first | rfl | simp [Region.wanted, yielded, hA])]
            go_simp
            exact hK _ _ hR (Below.refl _ _) rfl
          · rw [if_pos (show Region.wanted _ _ = true by first | rfl | simp [Region.wanted, yielded, hA])]
            go_simp
            exact hK _ _ hR (Below.refl _ _) rfl
          · rw [if_pos (show Region.wanted _ _ = true by first | rfl | simp [Region.wanted, yielded, hA])]
            go_simp
            exact hK _ _ hR (Below.refl _ _) rfl
          · rw [if_pos (show Region.wanted _ _ = true by first | rfl | simp [Region.wanted, yielded, hA])]
            go_simp
            exact hK _ _ hR (Below.refl _ _) rfl
          · rw [if_pos (show Region.wanted _ _ = true by first | rfl | simp [Region.wanted, yielded, hA])]
            go_simp
            exact hK _ _ hR (Below.refl _ _) rfl
          · rw [if_pos (show Region.wanted _ _ = true by first | rfl | simp [Region.wanted, yielded, hA])]
            go_simp
            exact hK _ _ hR (Below.refl _ _) rfl
          · rw [if_pos (show Region.wanted _ _ = true by first | rfl | simp [Region.wanted, yielded, hA])]
            go_simp
            exact hK _ _ hR (Below.refl _ _) rfl
          · rw [if_pos (show Region.wanted _ _ = true by first | rfl | simp [Region.wanted, yielded, hA])]
            go_simp
            refine (HFEW.out w'' D5).mono ?_
            rintro e w3 ⟨⟨vs, vf, ve, rfl, o1, o2, o3⟩, d3⟩
            have k1 := o1.sl encI_len
            have k2 := o2.sl encI_len
            have k3 := o3.sl encE_len
            obtain ⟨B1, e1, rfl, _⟩ := o1.form
            obtain ⟨B2, e2, rfl, _⟩ := o2.form
            obtain ⟨B3, e3, rfl, _⟩ := o3.form
            exact hK _ _ (below_next hR d3) d3 ⟨_, _, _, _, _, _, rfl, k1, k2, k3⟩
          · rw [if_pos (show Region.wanted _ _ = true by first | rfl | simp [Region.wanted, yielded, hA])]
            obtain ⟨x0, ⟨B1, e1, B2, e2, B3, e3, x2, hf⟩, _⟩ := hA
            have hsame := rsame_ok a' a' _ _ _ _ _ _ w'' h5.fa hf hsm.short hsm.short
            rw [decide_eq_true rfl] at hsame
            unfold vA at hsame
            go_simp
            refine hsame.mono ?_
            rintro e w3 ⟨rfl, d3⟩
            exact hK _ _ (below_next hR d3) d3 rfl
          · rw [if_pos (show Region.wanted _ _ = true by first | rfl | simp [Region.wanted, yielded, hA])]
            go_simp
            exact hK _ _ hR (Below.refl _ _) rfl
        case htailbx =>
        intro f w9 hR hP
        have xbx : f 13 = _ := hP 13 (by decide)
        rw [xbx]
        clear hP xbx
        go_wp2_with fail
        go_ret
        exact ⟨rfl, below_next D5 hR⟩
      · have hlt' : ¬ (k : Int) < words.length := by omega
        clear hlt
        replace D5 := D6
        clear D6 hvw hwb htr hta hlt6 hb hri
        obtain ⟨q0, q1, q2, q3⟩ := four h5.h
        go_wp2_with fail
        refine (hfi _ _ _ wr h5.fa).mono ?_
        rintro e w7 ⟨rfl, d⟩
        replace h5 := h5.next d
        replace e5 := keepb e5 d
        replace D5 := below_next D5 d
        clear d q0 q1 q2 q3 hfi
        go_wp2_with fail
        refine wp_region_gauto 14 (by kernel_rfl) (fun w' => Below w7.heap.size w7 w') (fun a b => Below a.heap.size a b)
          (fun i v w' => match i with
            | 0 | 1 => v = .string ⟨#[]⟩
            | 2 | 3 | 6 | 7 | 8 | 12 | 13 => v = .bool true
            | 4 | 5 => v = .int .i64 260
            | 9 => v = .agg #[.int .i64 a'.states, .slice A1 a'.start.length c1, .slice A2 a'.final.length c2, .slice A3 a'.edges.length c3]
            | 10 => v = .agg #[.int .i64 a.states, .slice As a.start.length cs, .slice Af a.final.length cf, .slice Ae a.edges.length ce]
            | 11 => ∃ B1 e1 B2 e2 B3 e3, v = .agg #[.int .i64 a'.states, .slice B1 a'.start.length e1, .slice B2 a'.final.length e2, .slice B3 a'.edges.length e3] ∧ FaAt w' w'.heap.size a' (.slice B1 a'.start.length e1) (.slice B2 a'.final.length e2) (.slice B3 a'.edges.length e3)
            | _ => True)
          ?finby ?hfinby (by decide) (by kernel_rfl) (by kernel_rfl) (by kernel_rfl) ?hkby ((Below.refl _ _).drew) ?hstepby ?htailby
        case hfinby =>
          intro f
          simp only [List.take_succ_cons, List.take_zero, putF, List.setIfInBounds_toArray, List.set_cons_zero, List.set_cons_succ]
          exact rfl
        case hkby =>
          intro i v x y hxy h
          match i with
          | 0 | 1 | 2 | 3 | 4 | 5 | 6 | 7 | 8 | 9 | 10 | 12 | 13 => exact h
          | 11 => obtain ⟨B1, e1, B2, e2, B3, e3, h1, h2⟩ := h; exact ⟨B1, e1, B2, e2, B3, e3, h1, h2.below hxy hxy.size⟩
          | n + 14 => trivial
        case hstepby =>
          intro f w'' hR
          have h5 := h5.next hR
          have e5 := keepb e5 hR
          have D5 := below_next D5 hR
          obtain ⟨q0, q1, q2, q3⟩ := four h5.h
          obtain ⟨p0, p1, p2, p3⟩ := four e5
          refine ⟨?_, ?_, ?_, ?_, ?_, ?_, ?_, ?_, ?_, ?_, ?_, ?_, ?_, ?_, trivial⟩
          all_goals
            intro hA a1 K hK
            simp only [AfterAll, Region.binds, forall_const, and_true] at hA
          · rw [if_pos (show Region.wanted _ _ = true by first | rfl | simp [Region.wanted, yielded, hA])]
            go_simp
            exact hK _ _ hR (Below.refl _ _) rfl
          · rw [if_pos (show Region.wanted _ _ = true by first | rfl | simp [Region.wanted, yielded, hA])]
            go_simp
            exact hK _ _ hR (Below.refl _ _) rfl
          · rw [if_pos (show Region.wanted _ _ = true by first | rfl | simp [Region.wanted, yielded, hA])]
            go_simp
            exact hK _ _ hR (Below.refl _ _) (by first | rfl | simp)
          · rw [if_pos (show Region.wanted _ _ = true by first | rfl | simp [Region.wanted, yielded, hA])]
            go_simp
            exact hK _ _ hR (Below.refl _ _) rfl
          · rw [if_pos (show Region.wanted _ _ = true by first | rfl | simp [Region.wanted, yielded, hA])]
            go_simp
            exact hK _ _ hR (Below.refl _ _) rfl
          · rw [if_pos (show Region.wanted _ _ = true by first | rfl | simp [Region.wanted, yielded, hA])]
            go_simp
            exact hK _ _ hR (Below.refl _ _) rfl
          · rw [if_pos (show Region.wanted _ _ = true by first | rfl | simp [Region.wanted, yielded, hA])]
            go_simp
            exact hK _ _ hR (Below.refl _ _) rfl
          · rw [if_pos (show Region.wanted _ _ = true by first | rfl | simp [Region.wanted, yielded, hA])]
            go_simp
            exact hK _ _ hR (Below.refl _ _) rfl
          · rw [if_pos (show Region.wanted _ _ = true by first | rfl | simp [Region.wanted, yielded, hA])]
            go_simp
            exact hK _ _ hR (Below.refl _ _) rfl
          · rw [if_pos (show Region.wanted _ _ = true by first | rfl | simp [Region.wanted, yielded, hA])]
            go_simp
            exact hK _ _ hR (Below.refl _ _) rfl
          · rw [if_pos (show Region.wanted _ _ = true by first | rfl | simp [Region.wanted, yielded, hA])]
            go_simp
            exact hK _ _ hR (Below.refl _ _) rfl
          · rw [if_pos (show Region.wanted _ _ = true by first | rfl | simp [Region.wanted, yielded, hA])]
            go_simp
            refine (HFEW.out w'' D5).mono ?_
            rintro e w3 ⟨⟨vs, vf, ve, rfl, o1, o2, o3⟩, d3⟩
            have k1 := o1.sl encI_len
            have k2 := o2.sl encI_len
            have k3 := o3.sl encE_len
            obtain ⟨B1, e1, rfl, _⟩ := o1.form
            obtain ⟨B2, e2, rfl, _⟩ := o2.form
            obtain ⟨B3, e3, rfl, _⟩ := o3.form
            exact hK _ _ (below_next hR d3) d3 ⟨_, _, _, _, _, _, rfl, k1, k2, k3⟩
          · rw [if_pos (show Region.wanted _ _ = true by first | rfl | simp [Region.wanted, yielded, hA])]
            obtain ⟨x0, ⟨B1, e1, B2, e2, B3, e3, x2, hf⟩, _⟩ := hA
            have hsame := rsame_ok a' a' _ _ _ _ _ _ w'' h5.fa hf hsm.short hsm.short
            rw [decide_eq_true rfl] at hsame
            unfold vA at hsame
            go_simp
            refine hsame.mono ?_
            rintro e w3 ⟨rfl, d3⟩
            exact hK _ _ (below_next hR d3) d3 rfl
          · rw [if_pos (show Region.wanted _ _ = true by first | rfl | simp [Region.wanted, yielded, hA])]
            go_simp
            exact hK _ _ hR (Below.refl _ _) rfl
        case htailby =>
        intro f w9 hR hP
        have xby : f 13 = _ := hP 13 (by decide)
        rw [xby]
        clear hP xby
        go_wp2_with fail
        go_ret
        exact ⟨rfl, below_next D5 hR⟩
theorem walkTakes_good (a : A) (As Af Ae Aw : Option Addr) (cs cf ce cw : Nat) (words : List (List UInt8)) (w : World) (hfa : FaAt w w.heap.size a (.slice As a.start.length cs) (.slice Af a.final.length cf) (.slice Ae a.edges.length ce))
    (h1 : a.start.length ≤ cs) (h2 : a.final.length ≤ cf) (h3 : a.edges.length ≤ ce) (h4 : cs ≤ maxLen) (h5 : cf ≤ maxLen) (h6 : ce ≤ maxLen) (hok : a.few.ok = true) (hvw : Strs w w.heap.size (.slice Aw words.length cw) words) (hwl : words.length ≤ maxLen) (hwb : ∀ x ∈ words, x.length ≤ maxLen) :
    Calls Tryz.prog 4 #[vA a (.slice As a.start.length cs) (.slice Af a.final.length cf) (.slice Ae a.edges.length ce), .slice Aw words.length cw] w (fun r w' => r = .returned (.bool true) ∧ Below w.heap.size w w') := by
  obtain ⟨W1, hW1⟩ : ∃ W1, w.alloc (.cells #[.int .i64 a.states, .slice As a.start.length cs, .slice Af a.final.length cf, .slice Ae a.edges.length ce] 25) = W1 := ⟨_, rfl⟩
  have d1 : Below w.heap.size w W1 := hW1 ▸ alloc1 w _
  have b1 : W1.heap[w.heap.size]? = some (.cells #[.int .i64 a.states, .slice As a.start.length cs, .slice Af a.final.length cf, .slice Ae a.edges.length ce] 25 (0, 0)) := by rw [← hW1]; exact heap_alloc_new w _
  have hfew := fun W (h : Below w.heap.size w W) => few_ok a As Af Ae cs cf ce W (hfa.below h h.size) h1 h2 h3 h4 h5 h6
  have hsm := a.few_small
  have hfit := hsm.fit hok
  have htr := fun vs vf ve word W h => trace_got a.few vs vf ve word W h hsm hok
  have hta := fun vs vf ve word W h => takes_got a.few vs vf ve word W h hsm hok
  have hri := fun vs vf ve W h => rright_ok a.few vs vf ve W h hsm.short
  rw [hok] at hri
  have krt := fun vs vf ve word W h => rtrace_ok a.few vs vf ve word W h hfit
  have krk := fun vs vf ve word W h => rtakes_ok a.few vs vf ve word W h hfit
  have keq := fun b b' c c' (word : List UInt8) W h h' (hw : word.length ≤ 12) => equalFunc_rows b b' (word.length + 1) c c' (a.few.trace word word.length) W h h' (A.trace_len _ _ _) (by omega) (fun l hl => by
    obtain ⟨i, hi, rfl⟩ := List.getElem_of_mem hl
    rw [A.trace_get]
    exact Nat.le_trans (A.after_in hfit _).2 (by decide))
  have hfi := fun vs vf ve W h => first_said a.few vs vf ve W h hsm hok
  have hrf := first_told a.few hsm hok
  unfold vA at hfew htr hta hri krt krk hfi ⊢
  generalize a.few = a' at *
  clear h1 h2 h3 h4 h5 h6 hfa hok
  have HFEW := Lib.hid hfew
  clear hfew
  go_enter Tryz.func4, Tryz.ntmps4
  go_wp2_with fail
  refine (wakes_ok _).mono ?_
  rintro e w2 ⟨rfl, d2⟩
  have e1 := keepb b1 d2
  obtain ⟨q0, q1, q2, q3⟩ := four e1
  have dw2 := below_next d1 d2
  clear d1 d2 b1 hW1
  go_wp2_with fail
  refine (HFEW.out _ dw2).mono ?_
  rintro e w3 ⟨⟨vs, vf, ve, rfl, o1, o2, o3⟩, d3⟩
  obtain ⟨A1, c1, rfl, _⟩ := o1.form
  obtain ⟨A2, c2, rfl, _⟩ := o2.form
  obtain ⟨A3, c3, rfl, _⟩ := o3.form
  have h5 := in5_new w3 a' _ _ _ o1 o2 o3
  obtain ⟨W5, hW5⟩ : ∃ W5, w3.alloc (.cells #[.int .i64 a'.states, .slice A1 a'.start.length c1, .slice A2 a'.final.length c2, .slice A3 a'.edges.length c3] 25) = W5 := ⟨_, rfl⟩
  have d5 : Below w3.heap.size w3 W5 := hW5 ▸ alloc1 w3 _
  have e5 := keepb (keepb e1 d3) d5
  have D5 := below_next (below_next dw2 d3) d5
  rw [hW5] at h5
  clear dw2 d3 o1 o2 o3 q0 q1 q2 q3 e1 d5
  obtain ⟨q0, q1, q2, q3⟩ := four h5.h
  go_wp2_with fail
  clear hW5
  refine (hri _ _ _ W5 h5.fa).mono ?_
  rintro e W6 ⟨rfl, d⟩
  replace h5 := h5.next d
  replace e5 := keepb e5 d
  replace D5 := below_next D5 d
  clear d q0 q1 q2 q3
  unfold maxLen at hwl
  go_wp2_with fail
  go_loopw [26] (fun i wr => ∃ k : Nat, k ≤ words.length ∧ i = .int .i64 k ∧ Below W6.heap.size W6 wr) (fun i _ => words.length - (intOf i).toNat)
  case atStart => exact ⟨0, Nat.zero_le _, rfl, Below.refl _ _⟩
  case round =>
    obtain ⟨k, hk, rfl, hb⟩ := hrel
    replace h5 := h5.next hb
    replace e5 := keepb e5 hb
    have D6 := below_next D5 hb
    by_cases hlt6 : k < words.length ∧ k ≠ 6
    · obtain ⟨hlt, hk6⟩ := hlt6
      have h6f : ((k : Int) == 6) = false := by rw [beq_eq_false_iff_ne]; omega
      have hlt' : (k : Int) < words.length := by omega
      clear hk6
      obtain ⟨bw, ow, rfl, hbw, hcw⟩ := str_at hvw (by omega)
      have hc := (D6.cell (p := ⟨bw, ow + k, none⟩) hbw).trans (hcw k hlt)
      have hxl := hwb _ (List.getElem_mem hlt)
      unfold maxLen at hxl
      generalize words[k] = x at hc hxl
      obtain ⟨q0, q1, q2, q3⟩ := four h5.h
      obtain ⟨y, hy⟩ : ∃ y, y = x.take 12 := ⟨_, rfl⟩
      have hx8 : (ByteArray.mk x.toArray).extract 0 (min (x.length : Int) 12).toNat = ⟨y.toArray⟩ := by rw [hy]; exact cut12 x
      have hyl : y.length ≤ 12 := by rw [hy, List.length_take]; omega
      clear hcw hy hwb
      have ht1 := htr _ _ _ y wr h5.fa (by omega)
      go_wp2_with fail
      refine ht1.mono ?_
      rintro e w7 ⟨⟨b7, c7, rfl, tr⟩, d7⟩
      replace h5 := h5.next d7
      replace hb := below_next hb d7
      clear d7 ht1 q0 q1 q2 q3 hx8
      obtain ⟨q0, q1, q2, q3⟩ := four h5.h
      have ht2 := hta _ _ _ y w7 h5.fa (by omega)
      go_wp2_with fail
      refine ht2.mono ?_
      rintro e w8 ⟨rfl, d8⟩
      replace h5 := h5.next d8
      replace hb := below_next hb d8
      replace tr := tr.next d8
      clear d8 ht2 q0 q1 q2 q3
      obtain ⟨q0, q1, q2, q3⟩ := four h5.h
      have ht3 := krt _ _ _ y w8 h5.fa (by omega)
      generalize hisb : a'.ends (a'.after y) = isb at *
      have HIB := Lib.hid hisb
      clear hisb
      go_wp2_with fail
      refine ht3.mono ?_
      rintro e w9 ⟨⟨b9, c9, rfl, tr9⟩, d9⟩
      replace h5 := h5.next d9
      replace hb := below_next hb d9
      replace tr := tr.next d9
      clear d9 ht3 q0 q1 q2 q3
      obtain ⟨q0, q1, q2, q3⟩ := four h5.h
      have ht4 := keq _ _ c7 c9 y w9 tr tr9 hyl
      go_wp2_with fail
      refine ht4.mono ?_
      rintro e w10 ⟨rfl, d10⟩
      replace h5 := h5.next d10
      replace hb := below_next hb d10
      clear d10 ht4 q0 q1 q2 q3 tr tr9
      obtain ⟨q0, q1, q2, q3⟩ := four h5.h
      have ht5 := krk _ _ _ y w10 h5.fa (by omega)
      rw [HIB.out] at ht5
      go_wp2_with fail
      refine ht5.mono ?_
      rintro e w11 ⟨rfl, d11⟩
      replace hb := below_next hb d11
      clear d11 ht5 q0 q1 q2 q3 htr hta krt krk keq
      cases isb
      all_goals
        go_wp2_with fail
        go_roundw
        case rel => exact ⟨k + 1, by omega, by go_num, hb⟩
        case measure => simp [intOf]; omega
    · by_cases hlt : k < words.length
      · have hk6 : k = 6 := by omega
        subst hk6
        obtain ⟨bw, ow, rfl, hbw, hcw⟩ := str_at hvw (by omega)
        have hc := (D6.cell (p := ⟨bw, ow + 6, none⟩) hbw).trans (hcw 6 hlt)
        clear hcw
        have hlt' : ((6 : Nat) : Int) < words.length := by omega
        generalize words[6] = x at hc
        clear hlt
        replace D5 := D6
        clear D6 hvw hwb htr hta hlt6 hb hri krt krk keq
        obtain ⟨q0, q1, q2, q3⟩ := four h5.h
        have HRF := Lib.hid hrf
        have hfi := hfi _ _ _ wr h5.fa
        clear hrf
        go_wp2_with fail
        refine hfi.mono ?_
        rintro e w7 ⟨⟨fw, se, rfl, hsd⟩, d⟩
        obtain ⟨sb, hrf, hcase⟩ := HRF.out fw se hsd
        unfold FirstTold at hrf
        replace h5 := h5.next d
        replace e5 := keepb e5 d
        replace D5 := below_next D5 d
        clear d q0 q1 q2 q3 hfi
        obtain ⟨q0, q1, q2, q3⟩ := four h5.h
        have hrf := hrf _ _ _ w7 h5.fa
        rcases hcase with ⟨rfl, rfl⟩ | ⟨rfl, rfl⟩
        · go_wp2_with fail
          refine hrf.mono ?_
          rintro e w8 ⟨rfl, d⟩
          replace h5 := h5.next d
          replace e5 := keepb e5 d
          replace D5 := below_next D5 d
          clear d q0 q1 q2 q3 hrf
          go_wp2_with fail
          refine wp_region_gauto 14 (by kernel_rfl) (fun w' => Below w8.heap.size w8 w') (fun a b => Below a.heap.size a b)
            (fun i v w' => match i with
              | 0 | 1 => v = .string fw
              | 2 | 3 | 6 | 7 | 8 | 12 | 13 => v = .bool true
              | 4 | 5 => v = .int .i64 0
              | 9 => v = .agg #[.int .i64 a'.states, .slice A1 a'.start.length c1, .slice A2 a'.final.length c2, .slice A3 a'.edges.length c3]
              | 10 => v = .agg #[.int .i64 a.states, .slice As a.start.length cs, .slice Af a.final.length cf, .slice Ae a.edges.length ce]
              | 11 => ∃ B1 e1 B2 e2 B3 e3, v = .agg #[.int .i64 a'.states, .slice B1 a'.start.length e1, .slice B2 a'.final.length e2, .slice B3 a'.edges.length e3] ∧ FaAt w' w'.heap.size a' (.slice B1 a'.start.length e1) (.slice B2 a'.final.length e2) (.slice B3 a'.edges.length e3)
              | _ => True)
            ?fingxs ?hfingxs (by decide) (by kernel_rfl) (by kernel_rfl) (by kernel_rfl) ?hkgxs ((Below.refl _ _).drew) ?hstepgxs ?htailgxs
          case hfingxs =>
            intro f
            simp only [List.take_succ_cons, List.take_zero, putF, List.setIfInBounds_toArray, List.set_cons_zero, List.set_cons_succ]
            exact rfl
          case hkgxs =>
            intro i v x y hxy h
            match i with
            | 0 | 1 | 2 | 3 | 4 | 5 | 6 | 7 | 8 | 9 | 10 | 12 | 13 => exact h
            | 11 => obtain ⟨B1, e1, B2, e2, B3, e3, h1, h2⟩ := h; exact ⟨B1, e1, B2, e2, B3, e3, h1, h2.below hxy hxy.size⟩
            | n + 14 => trivial
          case hstepgxs =>
            intro f w'' hR
            have h5 := h5.next hR
            have e5 := keepb e5 hR
            have D5 := below_next D5 hR
            obtain ⟨q0, q1, q2, q3⟩ := four h5.h
            obtain ⟨p0, p1, p2, p3⟩ := four e5
            refine ⟨?_, ?_, ?_, ?_, ?_, ?_, ?_, ?_, ?_, ?_, ?_, ?_, ?_, ?_, trivial⟩
            all_goals
              intro hA a1 K hK
              simp only [AfterAll, Region.binds, forall_const, and_true] at hA
            · rw [if_pos (show Region.wanted _ _ = true by first | rfl | simp [Region.wanted, yielded, hA])]
              go_simp
              exact hK _ _ hR (Below.refl _ _) rfl
            · rw [if_pos (show Region.wanted _ _ = true by first | rfl | simp [Region.wanted, yielded, hA])]
              go_simp
              exact hK _ _ hR (Below.refl _ _) rfl
            · rw [if_pos (show Region.wanted _ _ = true by first | rfl | simp [Region.wanted, yielded, hA])]
              go_simp
              exact hK _ _ hR (Below.refl _ _) (by first | rfl | simp)
            · rw [if_pos (show Region.wanted _ _ = true by first | rfl | simp [Region.wanted, yielded, hA])]
              go_simp
              exact hK _ _ hR (Below.refl _ _) rfl
            · rw [if_pos (show Region.wanted _ _ = true by first | rfl | simp [Region.wanted, yielded, hA])]
              go_simp
              exact hK _ _ hR (Below.refl _ _) rfl
            · rw [if_pos (show Region.wanted _ _ = true by first | rfl | simp [Region.wanted, yielded, hA])]
              go_simp
              exact hK _ _ hR (Below.refl _ _) rfl
            · rw [if_pos (show Region.wanted _ _ = true by first | rfl | simp [Region.wanted, yielded, hA])]
              go_simp
              exact hK _ _ hR (Below.refl _ _) rfl
            · rw [if_pos (show Region.wanted _ _ = true by first | rfl | simp [Region.wanted, yielded, hA])]
              go_simp
              exact hK _ _ hR (Below.refl _ _) rfl
            · rw [if_pos (show Region.wanted _ _ = true by first | rfl | simp [Region.wanted, yielded, hA])]
              go_simp
              exact hK _ _ hR (Below.refl _ _) rfl
            · rw [if_pos (show Region.wanted _ _ = true by first | rfl | simp [Region.wanted, yielded, hA])]
              go_simp
              exact hK _ _ hR (Below.refl _ _) rfl
            · rw [if_pos (show Region.wanted _ _ = true by first | rfl | simp [Region.wanted, yielded, hA])]
              go_simp
              exact hK _ _ hR (Below.refl _ _) rfl
            · rw [if_pos (show Region.wanted _ _ = true by first | rfl | simp [Region.wanted, yielded, hA])]
              go_simp
              refine (HFEW.out w'' D5).mono ?_
              rintro e w3 ⟨⟨vs, vf, ve, rfl, o1, o2, o3⟩, d3⟩
              have k1 := o1.sl encI_len
              have k2 := o2.sl encI_len
              have k3 := o3.sl encE_len
              obtain ⟨B1, e1, rfl, _⟩ := o1.form
              obtain ⟨B2, e2, rfl, _⟩ := o2.form
              obtain ⟨B3, e3, rfl, _⟩ := o3.form
              exact hK _ _ (below_next hR d3) d3 ⟨_, _, _, _, _, _, rfl, k1, k2, k3⟩
            · rw [if_pos (show Region.wanted _ _ = true by first | rfl | simp [Region.wanted, yielded, hA])]
              obtain ⟨x0, ⟨B1, e1, B2, e2, B3, e3, x2, hf⟩, _⟩ := hA
              have hsame := rsame_ok a' a' _ _ _ _ _ _ w'' h5.fa hf hsm.short hsm.short
              rw [decide_eq_true rfl] at hsame
              unfold vA at hsame
              go_simp
              refine hsame.mono ?_
              rintro e w3 ⟨rfl, d3⟩
              exact hK _ _ (below_next hR d3) d3 rfl
            · rw [if_pos (show Region.wanted _ _ = true by first | rfl | simp [Region.wanted, yielded, hA])]
              go_simp
              exact hK _ _ hR (Below.refl _ _) rfl
          case htailgxs =>
          intro f w9 hR hP
          have xgxs : f 13 = _ := hP 13 (by decide)
          rw [xgxs]
          clear hP xgxs
          go_wp2_with fail
          go_ret
          exact ⟨rfl, below_next D5 hR⟩
        · go_wp2_with fail
          refine hrf.mono ?_
          rintro e w8 ⟨rfl, d⟩
          replace h5 := h5.next d
          replace e5 := keepb e5 d
          replace D5 := below_next D5 d
          clear d q0 q1 q2 q3 hrf
          go_wp2_with fail
          refine wp_region_gauto 14 (by kernel_rfl) (fun w' => Below w8.heap.size w8 w') (fun a b => Below a.heap.size a b)
            (fun i v w' => match i with
              | 0 | 1 => v = .string fw
              | 2 | 3 | 6 | 7 | 8 | 12 | 13 => v = .bool true
              | 4 | 5 => v = .int .i64 4
              | 9 => v = .agg #[.int .i64 a'.states, .slice A1 a'.start.length c1, .slice A2 a'.final.length c2, .slice A3 a'.edges.length c3]
              | 10 => v = .agg #[.int .i64 a.states, .slice As a.start.length cs, .slice Af a.final.length cf, .slice Ae a.edges.length ce]
              | 11 => ∃ B1 e1 B2 e2 B3 e3, v = .agg #[.int .i64 a'.states, .slice B1 a'.start.length e1, .slice B2 a'.final.length e2, .slice B3 a'.edges.length e3] ∧ FaAt w' w'.heap.size a' (.slice B1 a'.start.length e1) (.slice B2 a'.final.length e2) (.slice B3 a'.edges.length e3)
              | _ => True)
            ?fingxn ?hfingxn (by decide) (by kernel_rfl) (by kernel_rfl) (by kernel_rfl) ?hkgxn ((Below.refl _ _).drew) ?hstepgxn ?htailgxn
          case hfingxn =>
            intro f
            simp only [List.take_succ_cons, List.take_zero, putF, List.setIfInBounds_toArray, List.set_cons_zero, List.set_cons_succ]
            exact rfl
          case hkgxn =>
            intro i v x y hxy h
            match i with
            | 0 | 1 | 2 | 3 | 4 | 5 | 6 | 7 | 8 | 9 | 10 | 12 | 13 => exact h
            | 11 => obtain ⟨B1, e1, B2, e2, B3, e3, h1, h2⟩ := h; exact ⟨B1, e1, B2, e2, B3, e3, h1, h2.below hxy hxy.size⟩
            | n + 14 => trivial
          case hstepgxn =>
            intro f w'' hR
            have h5 := h5.next hR
            have e5 := keepb e5 hR
            have D5 := below_next D5 hR
            obtain ⟨q0, q1, q2, q3⟩ := four h5.h
            obtain ⟨p0, p1, p2, p3⟩ := four e5
            refine ⟨?_, ?_, ?_, ?_, ?_, ?_, ?_, ?_, ?_, ?_, ?_, ?_, ?_, ?_, trivial⟩
            all_goals
              intro hA a1 K hK
              simp only [AfterAll, Region.binds, forall_const, and_true] at hA
            · rw [if_pos (show Region.wanted _ _ = true by first | rfl | simp [Region.wanted, yielded, hA])]
              go_simp
              exact hK _ _ hR (Below.refl _ _) rfl
            · rw [if_pos (show Region.wanted _ _ = true by first | rfl | simp [Region.wanted, yielded, hA])]
              go_simp
              exact hK _ _ hR (Below.refl _ _) rfl
            · rw [if_pos (show Region.wanted _ _ = true by first | rfl | simp [Region.wanted, yielded, hA])]
              go_simp
              exact hK _ _ hR (Below.refl _ _) (by first | rfl | simp)
            · rw [if_pos (show Region.wanted _ _ = true by first | rfl | simp [Region.wanted, yielded, hA])]
              go_simp
              exact hK _ _ hR (Below.refl _ _) rfl
            · rw [if_pos (show Region.wanted _ _ = true by first | rfl | simp [Region.wanted, yielded, hA])]
              go_simp
              exact hK _ _ hR (Below.refl _ _) rfl
            · rw [if_pos (show Region.wanted _ _ = true by first | rfl | simp [Region.wanted, yielded, hA])]
              go_simp
              exact hK _ _ hR (Below.refl _ _) rfl
            · rw [if_pos (show Region.wanted _ _ = true by first | rfl | simp [Region.wanted, yielded, hA])]
              go_simp
              exact hK _ _ hR (Below.refl _ _) rfl
            · rw [if_pos (show Region.wanted _ _ = true by first | rfl | simp [Region.wanted, yielded, hA])]
              go_simp
              exact hK _ _ hR (Below.refl _ _) rfl
            · rw [if_pos (show Region.wanted _ _ = true by first | rfl | simp [Region.wanted, yielded, hA])]
              go_simp
              exact hK _ _ hR (Below.refl _ _) rfl
            · rw [if_pos (show Region.wanted _ _ = true by first | rfl | simp [Region.wanted, yielded, hA])]
              go_simp
              exact hK _ _ hR (Below.refl _ _) rfl
            · rw [if_pos (show Region.wanted _ _ = true by first | rfl | simp [Region.wanted, yielded, hA])]
              go_simp
              exact hK _ _ hR (Below.refl _ _) rfl
            · rw [if_pos (show Region.wanted _ _ = true by first | rfl | simp [Region.wanted, yielded, hA])]
              go_simp
              refine (HFEW.out w'' D5).mono ?_
              rintro e w3 ⟨⟨vs, vf, ve, rfl, o1, o2, o3⟩, d3⟩
              have k1 := o1.sl encI_len
              have k2 := o2.sl encI_len
              have k3 := o3.sl encE_len
              obtain ⟨B1, e1, rfl, _⟩ := o1.form
              obtain ⟨B2, e2, rfl, _⟩ := o2.form
              obtain ⟨B3, e3, rfl, _⟩ := o3.form
              exact hK _ _ (below_next hR d3) d3 ⟨_, _, _, _, _, _, rfl, k1, k2, k3⟩
            · rw [if_pos (show Region.wanted _ _ = true by first | rfl | simp [Region.wanted, yielded, hA])]
              obtain ⟨x0, ⟨B1, e1, B2, e2, B3, e3, x2, hf⟩, _⟩ := hA
              have hsame := rsame_ok a' a' _ _ _ _ _ _ w'' h5.fa hf hsm.short hsm.short
              rw [decide_eq_true rfl] at hsame
              unfold vA at hsame
              go_simp
              refine hsame.mono ?_
              rintro e w3 ⟨rfl, d3⟩
              exact hK _ _ (below_next hR d3) d3 rfl
            · rw [if_pos (show Region.wanted _ _ = true by first | rfl | simp [Region.wanted, yielded, hA])]
              go_simp
              exact hK _ _ hR (Below.refl _ _) rfl
          case htailgxn =>
          intro f w9 hR hP
          have xgxn : f 13 = _ := hP 13 (by decide)
          rw [xgxn]
          clear hP xgxn
          go_wp2_with fail
          go_ret
          exact ⟨rfl, below_next D5 hR⟩
      · have hlt' : ¬ (k : Int) < words.length := by omega
        clear hlt
        replace D5 := D6
        clear D6 hvw hwb htr hta hlt6 hb hri krt krk keq
        obtain ⟨q0, q1, q2, q3⟩ := four h5.h
        have HRF := Lib.hid hrf
        have hfi := hfi _ _ _ wr h5.fa
        clear hrf
        go_wp2_with fail
        refine hfi.mono ?_
        rintro e w7 ⟨⟨fw, se, rfl, hsd⟩, d⟩
        obtain ⟨sb, hrf, hcase⟩ := HRF.out fw se hsd
        unfold FirstTold at hrf
        replace h5 := h5.next d
        replace e5 := keepb e5 d
        replace D5 := below_next D5 d
        clear d q0 q1 q2 q3 hfi
        obtain ⟨q0, q1, q2, q3⟩ := four h5.h
        have hrf := hrf _ _ _ w7 h5.fa
        rcases hcase with ⟨rfl, rfl⟩ | ⟨rfl, rfl⟩
        · go_wp2_with fail
          refine hrf.mono ?_
          rintro e w8 ⟨rfl, d⟩
          replace h5 := h5.next d
          replace e5 := keepb e5 d
          replace D5 := below_next D5 d
          clear d q0 q1 q2 q3 hrf
          go_wp2_with fail
          refine wp_region_gauto 14 (by kernel_rfl) (fun w' => Below w8.heap.size w8 w') (fun a b => Below a.heap.size a b)
            (fun i v w' => match i with
              | 0 | 1 => v = .string fw
              | 2 | 3 | 6 | 7 | 8 | 12 | 13 => v = .bool true
              | 4 | 5 => v = .int .i64 0
              | 9 => v = .agg #[.int .i64 a'.states, .slice A1 a'.start.length c1, .slice A2 a'.final.length c2, .slice A3 a'.edges.length c3]
              | 10 => v = .agg #[.int .i64 a.states, .slice As a.start.length cs, .slice Af a.final.length cf, .slice Ae a.edges.length ce]
              | 11 => ∃ B1 e1 B2 e2 B3 e3, v = .agg #[.int .i64 a'.states, .slice B1 a'.start.length e1, .slice B2 a'.final.length e2, .slice B3 a'.edges.length e3] ∧ FaAt w' w'.heap.size a' (.slice B1 a'.start.length e1) (.slice B2 a'.final.length e2) (.slice B3 a'.edges.length e3)
              | _ => True)
            ?fingys ?hfingys (by decide) (by kernel_rfl) (by kernel_rfl) (by kernel_rfl) ?hkgys ((Below.refl _ _).drew) ?hstepgys ?htailgys
          case hfingys =>
            intro f
            simp only [List.take_succ_cons, List.take_zero, putF, List.setIfInBounds_toArray, List.set_cons_zero, List.set_cons_succ]
            exact rfl
          case hkgys =>
            intro i v x y hxy h
            match i with
            | 0 | 1 | 2 | 3 | 4 | 5 | 6 | 7 | 8 | 9 | 10 | 12 | 13 => exact h
            | 11 => obtain ⟨B1, e1, B2, e2, B3, e3, h1, h2⟩ := h; exact ⟨B1, e1, B2, e2, B3, e3, h1, h2.below hxy hxy.size⟩
            | n + 14 => trivial
          case hstepgys =>
            intro f w'' hR
            have h5 := h5.next hR
            have e5 := keepb e5 hR
            have D5 := below_next D5 hR
            obtain ⟨q0, q1, q2, q3⟩ := four h5.h
            obtain ⟨p0, p1, p2, p3⟩ := four e5
            refine ⟨?_, ?_, ?_, ?_, ?_, ?_, ?_, ?_, ?_, ?_, ?_, ?_, ?_, ?_, trivial⟩
            all_goals
              intro hA a1 K hK
              simp only [AfterAll, Region.binds, forall_const, and_true] at hA
            · rw [if_pos (show Region.wanted _ _ = true by first | rfl | simp [Region.wanted, yielded, hA])]
              go_simp
              exact hK _ _ hR (Below.refl _ _) rfl
            · rw [if_pos (show Region.wanted _ _ = true by first | rfl | simp [Region.wanted, yielded, hA])]
              go_simp
              exact hK _ _ hR (Below.refl _ _) rfl
            · rw [if_pos (show Region.wanted _ _ = true by first | rfl | simp [Region.wanted, yielded, hA])]
              go_simp
              exact hK _ _ hR (Below.refl _ _) (by first | rfl | simp)
            · rw [if_pos (show Region.wanted _ _ = true by first | rfl | simp [Region.wanted, yielded, hA])]
              go_simp
              exact hK _ _ hR (Below.refl _ _) rfl
            · rw [if_pos (show Region.wanted _ _ = true by first | rfl | simp [Region.wanted, yielded, hA])]
              go_simp
              exact hK _ _ hR (Below.refl _ _) rfl
            · rw [if_pos (show Region.wanted _ _ = true by first | rfl | simp [Region.wanted, yielded, hA])]
              go_simp
              exact hK _ _ hR (Below.refl _ _) rfl
            · rw [if_pos (show Region.wanted _ _ = true by first | rfl | simp [Region.wanted, yielded, hA])]
              go_simp
              exact hK _ _ hR (Below.refl _ _) rfl
            · rw [if_pos (show Region.wanted _ _ = true by first | rfl | simp [Region.wanted, yielded, hA])]
              go_simp
              exact hK _ _ hR (Below.refl _ _) rfl
            · rw [if_pos (show Region.wanted _ _ = true by first | rfl | simp [Region.wanted, yielded, hA])]
              go_simp
              exact hK _ _ hR (Below.refl _ _) rfl
            · rw [if_pos (show Region.wanted _ _ = true by first | rfl | simp [Region.wanted, yielded, hA])]
              go_simp
              exact hK _ _ hR (Below.refl _ _) rfl
            · rw [if_pos (show Region.wanted _ _ = true by first | rfl | simp [Region.wanted, yielded, hA])]
              go_simp
              exact hK _ _ hR (Below.refl _ _) rfl
            · rw [if_pos (show Region.wanted _ _ = true by first | rfl | simp [Region.wanted, yielded, hA])]
              go_simp
              refine (HFEW.out w'' D5).mono ?_
              rintro e w3 ⟨⟨vs, vf, ve, rfl, o1, o2, o3⟩, d3⟩
              have k1 := o1.sl encI_len
              have k2 := o2.sl encI_len
              have k3 := o3.sl encE_len
              obtain ⟨B1, e1, rfl, _⟩ := o1.form
              obtain ⟨B2, e2, rfl, _⟩ := o2.form
              obtain ⟨B3, e3, rfl, _⟩ := o3.form
              exact hK _ _ (below_next hR d3) d3 ⟨_, _, _, _, _, _, rfl, k1, k2, k3⟩
            · rw [if_pos (show Region.wanted _ _ = true by first | rfl | simp [Region.wanted, yielded, hA])]
              obtain ⟨x0, ⟨B1, e1, B2, e2, B3, e3, x2, hf⟩, _⟩ := hA
              have hsame := rsame_ok a' a' _ _ _ _ _ _ w'' h5.fa hf hsm.short hsm.short
              rw [decide_eq_true rfl] at hsame
              unfold vA at hsame
              go_simp
              refine hsame.mono ?_
              rintro e w3 ⟨rfl, d3⟩
              exact hK _ _ (below_next hR d3) d3 rfl
            · rw [if_pos (show Region.wanted _ _ = true by first | rfl | simp [Region.wanted, yielded, hA])]
              go_simp
              exact hK _ _ hR (Below.refl _ _) rfl
          case htailgys =>
          intro f w9 hR hP
          have xgys : f 13 = _ := hP 13 (by decide)
          rw [xgys]
          clear hP xgys
          go_wp2_with fail
          go_ret
          exact ⟨rfl, below_next D5 hR⟩
        · go_wp2_with fail
          refine hrf.mono ?_
          rintro e w8 ⟨rfl, d⟩
          replace h5 := h5.next d
          replace e5 := keepb e5 d
          replace D5 := below_next D5 d
          clear d q0 q1 q2 q3 hrf
          go_wp2_with fail
          refine wp_region_gauto 14 (by kernel_rfl) (fun w' => Below w8.heap.size w8 w') (fun a b => Below a.heap.size a b)
            (fun i v w' => match i with
              | 0 | 1 => v = .string fw
              | 2 | 3 | 6 | 7 | 8 | 12 | 13 => v = .bool true
              | 4 | 5 => v = .int .i64 4
              | 9 => v = .agg #[.int .i64 a'.states, .slice A1 a'.start.length c1, .slice A2 a'.final.length c2, .slice A3 a'.edges.length c3]
              | 10 => v = .agg #[.int .i64 a.states, .slice As a.start.length cs, .slice Af a.final.length cf, .slice Ae a.edges.length ce]
              | 11 => ∃ B1 e1 B2 e2 B3 e3, v = .agg #[.int .i64 a'.states, .slice B1 a'.start.length e1, .slice B2 a'.final.length e2, .slice B3 a'.edges.length e3] ∧ FaAt w' w'.heap.size a' (.slice B1 a'.start.length e1) (.slice B2 a'.final.length e2) (.slice B3 a'.edges.length e3)
              | _ => True)
            ?fingyn ?hfingyn (by decide) (by kernel_rfl) (by kernel_rfl) (by kernel_rfl) ?hkgyn ((Below.refl _ _).drew) ?hstepgyn ?htailgyn
          case hfingyn =>
            intro f
            simp only [List.take_succ_cons, List.take_zero, putF, List.setIfInBounds_toArray, List.set_cons_zero, List.set_cons_succ]
            exact rfl
          case hkgyn =>
            intro i v x y hxy h
            match i with
            | 0 | 1 | 2 | 3 | 4 | 5 | 6 | 7 | 8 | 9 | 10 | 12 | 13 => exact h
            | 11 => obtain ⟨B1, e1, B2, e2, B3, e3, h1, h2⟩ := h; exact ⟨B1, e1, B2, e2, B3, e3, h1, h2.below hxy hxy.size⟩
            | n + 14 => trivial
          case hstepgyn =>
            intro f w'' hR
            have h5 := h5.next hR
            have e5 := keepb e5 hR
            have D5 := below_next D5 hR
            obtain ⟨q0, q1, q2, q3⟩ := four h5.h
            obtain ⟨p0, p1, p2, p3⟩ := four e5
            refine ⟨?_, ?_, ?_, ?_, ?_, ?_, ?_, ?_, ?_, ?_, ?_, ?_, ?_, ?_, trivial⟩
            all_goals
              intro hA a1 K hK
              simp only [AfterAll, Region.binds, forall_const, and_true] at hA
            · rw [if_pos (show Region.wanted _ _ = true by first | rfl | simp [Region.wanted, yielded, hA])]
              go_simp
              exact hK _ _ hR (Below.refl _ _) rfl
            · rw [if_pos (show Region.wanted _ _ = true by first | rfl | simp [Region.wanted, yielded, hA])]
              go_simp
              exact hK _ _ hR (Below.refl _ _) rfl
            · rw [if_pos (show Region.wanted _ _ = true by first | rfl | simp [Region.wanted, yielded, hA])]
              go_simp
              exact hK _ _ hR (Below.refl _ _) (by first | rfl | simp)
            · rw [if_pos (show Region.wanted _ _ = true by first | rfl | simp [Region.wanted, yielded, hA])]
              go_simp
              exact hK _ _ hR (Below.refl _ _) rfl
            · rw [if_pos (show Region.wanted _ _ = true by first | rfl | simp [Region.wanted, yielded, hA])]
              go_simp
              exact hK _ _ hR (Below.refl _ _) rfl
            · rw [if_pos (show Region.wanted _ _ = true by first | rfl | simp [Region.wanted, yielded, hA])]
              go_simp
              exact hK _ _ hR (Below.refl _ _) rfl
            · rw [if_pos (show Region.wanted _ _ = true by first | rfl | simp [Region.wanted, yielded, hA])]
              go_simp
              exact hK _ _ hR (Below.refl _ _) rfl
            · rw [if_pos (show Region.wanted _ _ = true by first | rfl | simp [Region.wanted, yielded, hA])]
              go_simp
              exact hK _ _ hR (Below.refl _ _) rfl
            · rw [if_pos (show Region.wanted _ _ = true by first | rfl | simp [Region.wanted, yielded, hA])]
              go_simp
              exact hK _ _ hR (Below.refl _ _) rfl
            · rw [if_pos (show Region.wanted _ _ = true by first | rfl | simp [Region.wanted, yielded, hA])]
              go_simp
              exact hK _ _ hR (Below.refl _ _) rfl
            · rw [if_pos (show Region.wanted _ _ = true by first | rfl | simp [Region.wanted, yielded, hA])]
              go_simp
              exact hK _ _ hR (Below.refl _ _) rfl
            · rw [if_pos (show Region.wanted _ _ = true by first | rfl | simp [Region.wanted, yielded, hA])]
              go_simp
              refine (HFEW.out w'' D5).mono ?_
              rintro e w3 ⟨⟨vs, vf, ve, rfl, o1, o2, o3⟩, d3⟩
              have k1 := o1.sl encI_len
              have k2 := o2.sl encI_len
              have k3 := o3.sl encE_len
              obtain ⟨B1, e1, rfl, _⟩ := o1.form
              obtain ⟨B2, e2, rfl, _⟩ := o2.form
              obtain ⟨B3, e3, rfl, _⟩ := o3.form
              exact hK _ _ (below_next hR d3) d3 ⟨_, _, _, _, _, _, rfl, k1, k2, k3⟩
            · rw [if_pos (show Region.wanted _ _ = true by first | rfl | simp [Region.wanted, yielded, hA])]
              obtain ⟨x0, ⟨B1, e1, B2, e2, B3, e3, x2, hf⟩, _⟩ := hA
              have hsame := rsame_ok a' a' _ _ _ _ _ _ w'' h5.fa hf hsm.short hsm.short
              rw [decide_eq_true rfl] at hsame
              unfold vA at hsame
              go_simp
              refine hsame.mono ?_
              rintro e w3 ⟨rfl, d3⟩
              exact hK _ _ (below_next hR d3) d3 rfl
            · rw [if_pos (show Region.wanted _ _ = true by first | rfl | simp [Region.wanted, yielded, hA])]
              go_simp
              exact hK _ _ hR (Below.refl _ _) rfl
          case htailgyn =>
          intro f w9 hR hP
          have xgyn : f 13 = _ := hP 13 (by decide)
          rw [xgyn]
          clear hP xgyn
          go_wp2_with fail
          go_ret
          exact ⟨rfl, below_next D5 hR⟩
end Go.Proofs.YtakldmbbmefnbaaGreat
/- What the rows' proofs share: two closed facts on the program. -/
namespace Go.Proofs.YtakldmbbmefnbaaGreat
open Go.ChangeShapes Go.WideShapes Go.ChangeAt Go.RowKit
theorem own_knob : ownKnob Tryz.prog.godebug = none := by kernel_rfl
theorem laid_out : laidOutB Tryz.prog = true := by kernel_rfl
end Go.Proofs.YtakldmbbmefnbaaGreat
