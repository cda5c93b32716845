/- The first word, plain law. -/
import Derived.Test.YtakldmbbmefnbaaRuns
namespace Go.Proofs.Ytakldmbbmefnbaa
variable {a : A}

theorem near_le_init (D : List Int) : ∀ (l : List Int) (x : Int), near D l x ≤ x
  | [], x => Int.le_refl x
  | s :: l, x => by
    have := near_le_init D l (min x (D.getD s.toNat 0))
    unfold near at this ⊢
    rw [List.foldl_cons]
    omega
theorem near_le (D : List Int) : ∀ (l : List Int) (x : Int) {s : Int}, s ∈ l → near D l x ≤ D.getD s.toNat 0
  | [], _, _, h => by cases h
  | r :: l, x, s, h => by
    have h1 := near_le_init D l (min x (D.getD r.toNat 0))
    unfold near at h1 ⊢
    rw [List.foldl_cons]
    rcases List.mem_cons.1 h with rfl | h
    · omega
    · exact near_le D l _ h
theorem near_at (D : List Int) : ∀ (l : List Int) (x : Int), near D l x = x ∨ ∃ s ∈ l, near D l x = D.getD s.toNat 0
  | [], x => .inl rfl
  | r :: l, x => by
    rcases near_at D l (min x (D.getD r.toNat 0)) with h | ⟨s, hs, h⟩
    · unfold near at h ⊢
      rw [List.foldl_cons, h]
      by_cases hx : x ≤ D.getD r.toNat 0
      · exact .inl (by omega)
      · exact .inr ⟨r, by simp, by omega⟩
    · unfold near at h ⊢
      rw [List.foldl_cons]
      exact .inr ⟨s, List.mem_cons_of_mem _ hs, h⟩

theorem getD_at {D : List Int} {s : Nat} (h : s < D.length) : D.getD s 0 = D[s] := by simp [List.getD, h]

section
variable {n : Nat} {D : List Int}

theorem Dist.fars (h : Dist a n D) (ha : Fit a) (hn : a.states = n) {s : Int} {c : Nat} (hf : Far a s c) : ∀ (q : Nat), s = q → ∀ hq : q < D.length, D[q] ≤ c :=
  h.least (fun e he => by have := edge_in ha he; omega) hf

theorem far_in (ha : Fit a) {s : Int} {c : Nat} (hf : Far a s c) : 0 ≤ s ∧ s < a.states := by
  cases hf with
  | fin h => exact inb_final ha _ h
  | free h _ _ => exact (edge_in ha h).1
  | byte h _ _ => exact (edge_in ha h).1

theorem attains (h : Dist a n D) (ha : Fit a) (hn : a.states = n) {s : Int} {c : Nat} (hf : Far a s c) : ∀ (q : Nat), s = q → ∀ hq : q < D.length, ∀ v : Nat, (v : Int) ≤ D[q] → ∃ t : Nat, ∃ ht : t < D.length, D[t] = v := by
  have hl := h.len
  induction hf with
  | fin hs =>
    rintro q rfl hq v hv
    have := h.fin q hs hq
    exact ⟨q, hq, by omega⟩
  | @free e c he hfr hr ih =>
    rintro q hsq hq v hv
    have hd := (edge_in ha he).2.1
    have h6 := h.edge e he q e.dst.toNat hsq (by omega) hq (by omega)
    have : cost e = 0 := by simp [cost, hfr]
    exact ih e.dst.toNat (by omega) (by omega) v (by omega)
  | @byte e c he hfr hr ih =>
    rintro q hsq hq v hv
    have hd := (edge_in ha he).2.1
    have h6 := h.edge e he q e.dst.toNat hsq (by omega) hq (by omega)
    have : cost e = 1 := by simp [cost, hfr]
    by_cases hv2 : (v : Int) = D[q]
    · exact ⟨q, hq, hv2.symm⟩
    · exact ih e.dst.toNat (by omega) (by omega) v (by omega)

theorem far_lt (h : Dist a n D) (ha : Fit a) (hn : a.states = n) {s : Int} {c : Nat} (hf : Far a s c) (q : Nat) (hsq : s = q) (hq : q < D.length) : D[q] < n := by
  refine Classical.byContradiction fun hno => ?_
  have hat := attains h ha hn hf q hsq hq
  have hb := h.bound q hq
  have hch : ∀ v : Nat, ∃ t : Nat, v ≤ n → t < D.length ∧ D.getD t 0 = v := by
    intro v
    by_cases hv : v ≤ n
    · obtain ⟨t, ht, he⟩ := hat v (by omega)
      exact ⟨t, fun _ => ⟨ht, by rw [getD_at ht]; exact he⟩⟩
    · exact ⟨0, fun h => absurd h hv⟩
  obtain ⟨f, hf⟩ := Classical.axiomOfChoice hch
  have hnd : ((List.range (n + 1)).map f).Nodup := by
    unfold List.Nodup
    rw [List.pairwise_map]
    refine List.Pairwise.imp_of_mem ?_ (List.nodup_range (n := n + 1))
    intro x y hx hy hxy he
    have h1 := (hf x (by have := List.mem_range.1 hx; omega)).2
    have h2 := (hf y (by have := List.mem_range.1 hy; omega)).2
    rw [he, h2] at h1
    exact hxy (by omega)
  have := nodup_range n _ hnd (fun i hi => by
    obtain ⟨v, hv, rfl⟩ := List.mem_map.1 hi
    have := (hf v (by have := List.mem_range.1 hv; omega)).1
    have := h.len
    omega)
  simp at this
  omega

/-- What comes of a word's rest bounds how near a final is. -/
theorem near_comes (h : Dist a n D) (ha : Fit a) (hn : a.states = n) {l : List Int} {r t : Int} {w : List UInt8} (hr : r ∈ l) (ht : t ∈ a.final) (hc : Comes a r w t) (x : Int) : near D l x ≤ w.length ∧ near D l x < n := by
  have hf := (far_comes ha).2 ⟨w, rfl, t, ht, hc⟩
  have hin := far_in ha hf
  have hl := h.len
  have h1 := near_le D l x hr
  have h2 := h.fars ha hn hf r.toNat (by omega) (by omega)
  have h3 := far_lt h ha hn hf r.toNat (by omega) (by omega)
  rw [getD_at (by omega)] at h1
  omega

theorem near_pos (h : Dist a n D) {l : List Int} (hl : Inb a l) (hn : a.states = n) : 0 ≤ near D l n := by
  rcases near_at D l n with h1 | ⟨s, hs, h1⟩
  · omega
  · have := hl s hs
    have hlen := h.len
    rw [h1, getD_at (by omega)]
    exact (h.bound s.toNat (by omega)).1

/-- How the first word is come by. -/
structure FInv (a : A) (D : List Int) (n L : Nat) (word : List UInt8) (left : Nat) : Prop where
  near_ : near D (a.after word) n = left
  sum : word.length + left = L
  lt : L < n
  pref : ∀ w, a.takes w → L ≤ w.length ∧ (w.length = L → ∀ j (h : j < word.length) (h' : j < w.length), w.take j = word.take j → word[j].toNat ≤ w[j].toNat)

/-- The first word. -/
structure IsFirst (a : A) (n : Nat) (word : List UInt8) : Prop where
  takes : a.takes word
  short : word.length < n
  least : ∀ w, a.takes w → word.length ≤ w.length ∧ (w.length = word.length → ∀ j (h : j < word.length) (h' : j < w.length), w.take j = word.take j → word[j].toNat ≤ w[j].toNat)

theorem after_snoc (word : List UInt8) (b : UInt8) : a.after (word ++ [b]) = a.step (a.after word) b.toNat := by
  unfold A.after
  rw [List.foldl_append]
  rfl
theorem after_inb (ha : Fit a) (word : List UInt8) : Inb a (a.after word) := by
  intro s hs
  have := List.all_eq_true.1 (A.after_in ha word).1 s hs
  simp [inB] at this
  omega
theorem after_closed (ha : Fit a) (word : List UInt8) (r t : Int) (hr : r ∈ a.after word) (h : Comes a r [] t) : t ∈ a.after word := by
  obtain ⟨q, hq, h2⟩ := (mem_after ha).1 hr
  exact (mem_after ha).2 ⟨q, hq, by simpa using h2.append h⟩

theorem FInv.start (h : Dist a n D) (ha : Fit a) (hn : a.states = n) {L : Nat} (hL : near D (a.clo a.start) n = L) (hlt : L < n) : FInv a D n L [] L := by
  refine ⟨hL, by simp, hlt, fun w hw => ⟨?_, fun _ j hj => absurd hj (Nat.not_lt_zero j)⟩⟩
  obtain ⟨r, hr, t, ht, hc⟩ := hw
  have := (near_comes h ha hn ((mem_clo ha (inb_start ha)).2 ⟨r, hr, .nil r⟩) ht hc n).1
  omega
theorem no_word (h : Dist a n D) (ha : Fit a) (hn : a.states = n) (hL : ¬ near D (a.clo a.start) n < n) (w : List UInt8) : ¬ a.takes w := by
  rintro ⟨r, hr, t, ht, hc⟩
  exact hL (near_comes h ha hn ((mem_clo ha (inb_start ha)).2 ⟨r, hr, .nil r⟩) ht hc n).2

theorem near_step (h : Dist a n D) (ha : Fit a) (hn : a.states = n) {l : List Int} (hl : Inb a l) {left : Nat} (hnr : near D l n = (left : Int) + 1) (hlt : (left : Int) + 1 < n) (b : UInt8) : left ≤ near D (a.step l b.toNat) n := by
  rcases near_at D (a.step l b.toNat) n with h1 | ⟨t, ht, h1⟩
  · omega
  · have hti := inb_step ha l b.toNat t ht
    have hlen := h.len
    rw [h1, getD_at (by omega)]
    obtain ⟨r, hr, hc⟩ := (mem_step ha hl).1 ht
    rcases h.sound t.toNat (by omega) with h2 | h2
    · omega
    · have h3 := (h.bound t.toNat (by omega)).1
      have h2' : Far a t D[t.toNat].toNat := by
        have : ((t.toNat : Nat) : Int) = t := by omega
        rwa [this] at h2
      obtain ⟨w, hw, f, hf, hc2⟩ := (far_comes ha).1 h2'
      have := (near_comes h ha hn hr hf (hc.append hc2) n).1
      simp at this
      omega
theorem FInv.exists_ (h : Dist a n D) (ha : Fit a) (hn : a.states = n) {L left : Nat} {word : List UInt8} (hI : FInv a D n L word (left + 1)) : ∃ b : UInt8, near D (a.step (a.after word) b.toNat) n = left := by
  have hnr := hI.near_
  have hsum := hI.sum
  have hlt := hI.lt
  have hin := after_inb ha word
  have hlen := h.len
  rcases near_at D (a.after word) n with h1 | ⟨s, hs, h1⟩
  · omega
  · have hsi := hin s hs
    rw [h1, getD_at (by omega)] at hnr
    rcases h.sound s.toNat (by omega) with h2 | h2
    · omega
    · have h2' : Far a s D[s.toNat].toNat := by
        have : ((s.toNat : Nat) : Int) = s := by omega
        rwa [this] at h2
      obtain ⟨w, hw, f, hf, hc⟩ := (far_comes ha).1 h2'
      cases w with
      | nil => simp at hw; omega
      | cons b w =>
        refine ⟨b, ?_⟩
        obtain ⟨r, hc1, hc2⟩ := hc.head
        have hr : r ∈ a.step (a.after word) b.toNat := (mem_step ha hin).2 ⟨s, hs, hc1⟩
        have h5 := (near_comes h ha hn hr hf hc2 n).1
        have h6 := near_step (left := left) h ha hn hin (by have := hI.near_; omega) (by omega) b
        simp at hw
        omega
theorem FInv.next (h : Dist a n D) (ha : Fit a) (hn : a.states = n) {L left : Nat} {word : List UInt8} (hI : FInv a D n L word (left + 1)) (b : UInt8) (hb : near D (a.step (a.after word) b.toNat) n = left) (hmin : ∀ c : UInt8, c.toNat < b.toNat → near D (a.step (a.after word) c.toNat) n ≠ left) : FInv a D n L (word ++ [b]) left := by
  have hsum := hI.sum
  have hlt := hI.lt
  refine ⟨by rw [after_snoc]; exact hb, by simp; omega, hI.lt, fun w hw => ⟨(hI.pref w hw).1, fun hwl j hj hj' htk => ?_⟩⟩
  by_cases hjw : j < word.length
  · rw [List.getElem_append_left hjw]
    refine (hI.pref w hw).2 hwl j hjw hj' ?_
    rw [htk, List.take_append_of_le_length (by omega)]
  · have hje : j = word.length := by simp at hj; omega
    subst hje
    rw [List.getElem_append_right (Nat.le_refl _)]
    simp only [Nat.sub_self, List.getElem_cons_zero]
    rw [List.take_append_of_le_length (Nat.le_refl _), List.take_length] at htk
    refine Classical.byContradiction fun hno => hmin w[word.length] (by omega) ?_
    obtain ⟨r, hr, t, ht, hc⟩ := hw
    have hsplit : w = word ++ w[word.length] :: w.drop (word.length + 1) := by
      conv => lhs; rw [← List.take_append_drop word.length w, htk, List.drop_eq_getElem_cons hj']
    generalize w[word.length] = c at *
    generalize hd : w.drop (word.length + 1) = rest at *
    have hlr : rest.length = left := by rw [← hd, List.length_drop]; omega
    rw [hsplit] at hc
    have key : ∀ (v : List UInt8) (r : Int), Comes a r (v ++ c :: rest) t → ∃ q, Comes a r v q ∧ Comes a q (c :: rest) t := by
      intro v
      induction v with
      | nil => intro r h; exact ⟨r, .nil r, h⟩
      | cons x v ih =>
        intro r h
        obtain ⟨p, h1, h2⟩ := Comes.head h
        obtain ⟨q, h3, h4⟩ := ih p h2
        exact ⟨q, by simpa using h1.append h3, h4⟩
    obtain ⟨q, h1, h2⟩ := key word r hc
    obtain ⟨p, h3, h4⟩ := h2.head
    have hq : q ∈ a.after word := (mem_after ha).2 ⟨r, hr, h1⟩
    have hp : p ∈ a.step (a.after word) c.toNat := (mem_step ha (after_inb ha word)).2 ⟨q, hq, h3⟩
    have h5 := (near_comes h ha hn hp ht h4 n).1
    have h6 := near_step (left := left) h ha hn (after_inb ha word) (by have := hI.near_; omega) (by omega) c
    omega
theorem FInv.done (h : Dist a n D) (ha : Fit a) (hn : a.states = n) {L : Nat} {word : List UInt8} (hI : FInv a D n L word 0) : IsFirst a n word := by
  have hsum := hI.sum
  have hlt := hI.lt
  have hlen := h.len
  have hL : word.length = L := by omega
  refine ⟨?_, by omega, fun w hw => ?_⟩
  · rcases near_at D (a.after word) n with h1 | ⟨s, hs, h1⟩
    · have := hI.near_; omega
    · have hsi := after_inb ha word s hs
      have hnr := hI.near_
      rw [h1, getD_at (by omega)] at hnr
      rcases h.sound s.toNat (by omega) with h2 | h2
      · omega
      · have h2' : Far a s D[s.toNat].toNat := by
          have : ((s.toNat : Nat) : Int) = s := by omega
          rwa [this] at h2
        obtain ⟨w, hw, f, hf, hc⟩ := (far_comes ha).1 h2'
        have hw0 : w = [] := List.eq_nil_of_length_eq_zero (by omega)
        subst hw0
        obtain ⟨r, hr, hc2⟩ := (mem_after ha).1 hs
        exact ⟨r, hr, f, hf, by simpa using hc2.append hc⟩
  · have h9 := hI.pref w hw
    exact ⟨by omega, fun h => h9.2 (by omega)⟩
end
end Go.Proofs.Ytakldmbbmefnbaa
