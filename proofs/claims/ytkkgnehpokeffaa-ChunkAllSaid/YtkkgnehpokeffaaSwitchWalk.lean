/- The walk of dockyardlaw19.ChunkSwitch. -/
import Derived.Test.YtkkgnehpokeffaaCutsWalk
import Derived.Deep.RegionHeld3
namespace Go.Proofs.Ytkkgnehpokeffaa.Chunk
open Go.RowKit Go.Proofs.Ytkkgnehpokeffaa.Mem Go.Proofs.Ytkkgnehpokeffaa.SlBytes

theorem after_two {w w1 w2 : World} {o : Obj} (h1 : Below (w.alloc o).heap.size (w.alloc o) w1) (h2 : Below w1.heap.size w1 w2) : Below w.heap.size w w2 := by
  have ha : Below w.heap.size w (w.alloc o) := (Below.refl _ _).alloc (Nat.le_refl _) _
  have hb := ha.trans (h1.mono (by simp))
  exact hb.trans (h2.mono hb.size)

set_option maxHeartbeats 800000 in
/-- Where the law asks nothing: it answers whether 'alive' does. -/
theorem switch_idle (A B : Option Addr) (n c m d : Nat) (at_ : Int) (w : World) (hn : n ≤ 140737488355328) (hm : m ≤ 140737488355328) (h : n = 0 ∨ 10000 < n ∨ 10000 < m) :
    Calls Try.prog 6 #[.slice A n c, .slice B m d, .int .i64 at_] w fun e w' => e = .returned (.bool true) ∧ Below w.heap.size w w' := by
  by_cases h1 : n = 0
  · subst h1
    clear h
    go_enter Try.func6, Try.ntmps6
    go_wp2_with (go_at_call 7; refine (new _).mono ?_; rintro e w' ⟨rfl, rfl⟩)
    refine (alive _).mono ?_
    rintro e w1 ⟨rfl, hb1⟩
    go_wp2_with fail
    refine (alive _).mono ?_
    rintro e w2 ⟨rfl, hb2⟩
    go_wp2
    go_ret
    exact ⟨rfl, after_two hb1 hb2⟩
  · have z : (n == 0) = false := beq_eq_false_iff_ne.2 h1
    have z' : ((n : Int) == 0) = false := beq_eq_false_iff_ne.2 (by omega)
    by_cases h2 : (10000 : Int) < n
    · clear h h1
      go_enter Try.func6, Try.ntmps6
      go_wp2_with (go_at_call 7; refine (new _).mono ?_; rintro e w' ⟨rfl, rfl⟩)
      refine (alive _).mono ?_
      rintro e w1 ⟨rfl, hb1⟩
      go_wp2_with fail
      refine (alive _).mono ?_
      rintro e w2 ⟨rfl, hb2⟩
      go_wp2
      go_ret
      exact ⟨rfl, after_two hb1 hb2⟩
    · have h2' : (n : Int) ≤ 10000 := by omega
      have h3 : (10000 : Int) < m := by omega
      clear h h1 h2
      go_enter Try.func6, Try.ntmps6
      go_wp2_with (go_at_call 7; refine (new _).mono ?_; rintro e w' ⟨rfl, rfl⟩)
      refine (alive _).mono ?_
      rintro e w1 ⟨rfl, hb1⟩
      go_wp2_with fail
      refine (alive _).mono ?_
      rintro e w2 ⟨rfl, hb2⟩
      go_wp2
      go_ret
      exact ⟨rfl, after_two hb1 hb2⟩

theorem own_ne {w w1 : World} {e : TypeId} {sz n : Nat} {A : Option Addr} {c g : Nat} {xs : List Value} (h : w1.ownsRow w.heap.size e sz (.slice A n c) n xs) (hb : A.map (·.block) = (Value.slice A n c).ownBlock) (hg : g < w.heap.size) : A.map (·.block) ≠ some g := by
  intro e
  have := (h.lt g (hb ▸ e)).1
  omega

set_option maxRecDepth 100000 in
set_option linter.unusedSimpArgs false in
set_option maxHeartbeats 1600000 in
theorem switch_main (A B : Option Addr) (n c m d n1 m1 : Nat) (l l2 P1 Q1 : List Int) (at_ : Int) (w : World) (hS : Sl w 1 A n (bcs l)) (hS2 : Sl w 1 B m (bcs l2))
    (hA : ∀ w, Sl w 1 A n (bcs l) → Calls Try.prog 12 #[.slice A n c, .int .u64 0] w (Made w n1 (bcs P1)))
    (hB : ∀ w, Sl w 1 B m (bcs l2) → Calls Try.prog 12 #[.slice B m d, .int .u64 0] w (Made w m1 (bcs Q1)))
    (hT : ∀ (k : Nat) w, Sl w 1 A n (bcs l) → Calls Try.prog 12 #[.slice A n c, .int .u64 (k : Nat)] w (Made w (min (n - k) 4096) (bcs ((l.drop k).take 4096))))
    (h0 : 1 ≤ (n : Int)) (hn : (n : Int) ≤ 10000) (hm : (m : Int) ≤ 10000) (hz : ((n : Int) == 0) = false) 
    (hn1 : (n : Int) ≤ 4096 ∧ n1 = n ∨ 4096 < (n : Int) ∧ n1 = 4096) (hm1 : (m : Int) ≤ 4096 ∧ m1 = m ∨ 4096 < (m : Int) ∧ m1 = 4096) :
    Calls Try.prog 6 #[.slice A n c, .slice B m d, .int .i64 at_] w fun e w' => e = .returned (.bool true) ∧ Below w.heap.size w w' := by
  have HA := Lib.hid hA
  have HB := Lib.hid hB
  have HT := Lib.hid hT
  have HS := Lib.hid hS
  have HS2 := Lib.hid hS2
  clear hA hB hT hS hS2
  have hb1 : (n1 : Int) ≤ n ∧ (n1 : Int) ≤ 4096 := by omega
  have hb2 : (m1 : Int) ≤ m ∧ (m1 : Int) ≤ 4096 := by omega
  obtain ⟨hb11, hb12⟩ := hb1
  obtain ⟨hb21, hb22⟩ := hb2
  have HN1 := Lib.hid hn1
  have HM1 := Lib.hid hm1
  clear hn1 hm1
  go_enter Try.func6, Try.ntmps6
  go_wp2_with (go_at_call 7; refine (new _).mono ?_; rintro e w' ⟨rfl, rfl⟩)
  refine (alive _).mono ?_
  rintro e w1 ⟨rfl, hb1⟩
  have hz1 : w.heap.size + 1 ≤ w1.heap.size := by have := hb1.size; simp at this; omega
  have HB1 : Hid (Below w.heap.size w w1) := ((Below.refl _ _).alloc (Nat.le_refl _) _).trans (hb1.mono (by simp))
  have HG1 := Lib.hid ((gth_new w).below hb1)
  clear hb1
  go_wp2_with fail
  refine (HA.out w1 (HS.out.below HB1.out)).mono ?_
  rintro e w2 ⟨v, rfl, hown, hbel⟩
  obtain ⟨A1, c1, rfl, _, _, _, hsl, hblk⟩ := Sl.of_own hown
  have HNE := Lib.hid (own_ne (g := w.heap.size) hown hblk (by omega))
  have hz2 : w1.heap.size ≤ w2.heap.size := hbel.size
  have HB2 : Hid (Below w.heap.size w w2) := HB1.out.trans (hbel.mono HB1.out.size)
  have HG2 := Lib.hid (HG1.out.below hbel)
  have HP := Lib.hid hsl
  clear hown hbel hsl hblk HB1 HG1
  go_wp2_with fail
  refine (take_diff_app w.heap.size 3 1 n 0 0 0 false none 0 0 [] P1 A1 n1 c1 w2 (by omega) (by omega) (by omega) (by omega) HG2.out rfl HP.out HNE.out).mono ?_
  rintro e w3 ⟨D3, n3, c3, rfl, hg3, hgr3, _⟩
  have HB3 : Hid (Below w.heap.size w w3) := HB2.out.grown hgr3 HB2.out.size (fun k hk => by injection hk with hk; omega)
  obtain rfl : n3 = n1 := by have h1 := hg3.len; have h2 := HP.out.1; rw [bcs_len] at h2; omega
  have HG3 := Lib.hid hg3
  have hz3 : w2.heap.size ≤ w3.heap.size := hgr3.size
  clear hg3 hgr3 HB2 HG2 HP HNE
  have hmn : (if (4096 : Int) < (n : Int) then 4096 else (n : Int)) = (n3 : Int) := by have := HN1.out; split <;> omega
  clear HN1
  go_wp2_with fail
  clear hmn
  refine (HB.out w3 (HS2.out.below HB3.out)).mono ?_
  rintro e w4 ⟨v, rfl, hown, hbel⟩
  obtain ⟨A4, c4, rfl, _, _, _, hsl, hblk⟩ := Sl.of_own hown
  have HNE := Lib.hid (own_ne (g := w.heap.size) hown hblk (by omega))
  have hz4 : w3.heap.size ≤ w4.heap.size := hbel.size
  have HB4 : Hid (Below w.heap.size w w4) := HB3.out.trans (hbel.mono HB3.out.size)
  have HG4 := Lib.hid (HG3.out.below hbel)
  have HP := Lib.hid hsl
  clear hown hbel hsl hblk HB3 HG3
  go_wp2_with fail
  refine (take_diff_app w.heap.size 4 1 m 3 1 n true D3 _ c3 P1 Q1 A4 m1 c4 w4 (by omega) (by omega) (by omega) (by omega) HG4.out rfl HP.out HNE.out).mono ?_
  rintro e w5 ⟨D5, n5, c5, rfl, hg5, hgr5, _⟩
  have HB5 : Hid (Below w.heap.size w w5) := HB4.out.grown hgr5 HB4.out.size (fun k hk => by injection hk with hk; omega)
  obtain rfl : n5 = m1 := by have h1 := hg5.len; have h2 := HP.out.1; rw [bcs_len] at h2; omega
  have HG5 := Lib.hid hg5
  have hz5 : w4.heap.size ≤ w5.heap.size := hgr5.size
  clear hg5 hgr5 HB4 HG4 HP HNE
  have hmm : (if (4096 : Int) < (m : Int) then 4096 else (m : Int)) = (n5 : Int) := by have := HM1.out; split <;> omega
  have hall : ((n5 : Int) == (m : Int)) = decide ((m : Int) ≤ 4096) := by
    rcases HM1.out with ⟨h, he⟩ | ⟨h, he⟩
    · rw [he, decide_eq_true h]; simp
    · rw [decide_eq_false (by omega)]; exact beq_eq_false_iff_ne.2 (by omega)
  clear HM1
  have hwm : IntKind.u64.wrap (m : Int) = (m : Int) := by rw [IntKind.wrap_u64]; omega
  have hd5 : n5 ≤ 140737488355328 := by omega
  go_wp2_with fail
  -- REGION 9
  go_cut [101] (fun v wx => v = .bool false ∧ Hid (Below w.heap.size w wx) ∧ Hid (Gth wx w.heap.size 4 1 m true D5 n5 c5 Q1))
  case first =>
    refine wp_region_held_drew (S := fun _ => True) (by kernel_rfl) trivial (fun hHeld => ?_)
    refine wpAnyH_take (i := 0) (v := ?_) rfl (by kernel_rfl) (by kernel_rfl) (by kernel_rfl) (fun _ _ _ h => h) (Or.inl ⟨by rfl, ?_⟩) trivial ?_
    rotate_left
    · intro w hSw; first | (go_simp; done) | (go_simp; with_reducible rfl)
    try simp only [List.getElem_toArray, List.getElem_cons_zero, List.getElem_cons_succ, Act.put, List.setIfInBounds_toArray, List.set_cons_zero, List.set_cons_succ]
    refine wpAnyH_take (i := 1) (v := ?_) rfl (by kernel_rfl) (by kernel_rfl) (by kernel_rfl) (fun _ _ _ h => h) (Or.inl ⟨by rfl, ?_⟩) trivial ?_
    rotate_left
    · intro w hSw; first | (go_simp; done) | (go_simp; with_reducible rfl)
    try simp only [List.getElem_toArray, List.getElem_cons_zero, List.getElem_cons_succ, Act.put, List.setIfInBounds_toArray, List.set_cons_zero, List.set_cons_succ]
    refine wpAnyH_take (i := 2) (v := ?_) rfl (by kernel_rfl) (by kernel_rfl) (by kernel_rfl) (fun _ _ _ h => h) (Or.inl ⟨by rfl, ?_⟩) trivial ?_
    rotate_left
    · intro w hSw; first | (go_simp; done) | (go_simp; with_reducible rfl)
    try simp only [List.getElem_toArray, List.getElem_cons_zero, List.getElem_cons_succ, Act.put, List.setIfInBounds_toArray, List.set_cons_zero, List.set_cons_succ]
    refine wpAnyH_take (i := 3) (v := ?_) rfl (by kernel_rfl) (by kernel_rfl) (by kernel_rfl) (fun _ _ _ h => h) (Or.inl ⟨by rfl, ?_⟩) trivial ?_
    rotate_left
    · intro w hSw; first | (go_simp; done) | (go_simp; with_reducible rfl)
    try simp only [List.getElem_toArray, List.getElem_cons_zero, List.getElem_cons_succ, Act.put, List.setIfInBounds_toArray, List.set_cons_zero, List.set_cons_succ]
    refine wpAnyH_take (i := 4) (v := ?_) rfl (by kernel_rfl) (by kernel_rfl) (by kernel_rfl) (fun _ _ _ h => h) (Or.inl ⟨by rfl, ?_⟩) trivial ?_
    rotate_left
    · intro w hSw; first | (go_simp; done) | (go_simp; with_reducible rfl)
    try simp only [List.getElem_toArray, List.getElem_cons_zero, List.getElem_cons_succ, Act.put, List.setIfInBounds_toArray, List.set_cons_zero, List.set_cons_succ]
    refine wpAnyH_take (i := 5) (v := ?_) rfl (by kernel_rfl) (by kernel_rfl) (by kernel_rfl) (fun _ _ _ h => h) (Or.inl ⟨by rfl, ?_⟩) trivial ?_
    rotate_left
    · intro w hSw; first | (go_simp; done) | (go_simp; with_reducible rfl)
    try simp only [List.getElem_toArray, List.getElem_cons_zero, List.getElem_cons_succ, Act.put, List.setIfInBounds_toArray, List.set_cons_zero, List.set_cons_succ]
    refine wpAnyH_take (i := 6) (v := ?_) rfl (by kernel_rfl) (by kernel_rfl) (by kernel_rfl) (fun _ _ _ h => h) (Or.inl ⟨by rfl, ?_⟩) trivial ?_
    rotate_left
    · intro w hSw; first | (go_simp; done) | (go_simp; with_reducible rfl)
    try simp only [List.getElem_toArray, List.getElem_cons_zero, List.getElem_cons_succ, Act.put, List.setIfInBounds_toArray, List.set_cons_zero, List.set_cons_succ]
    refine wpAnyH_take (i := 7) (v := ?_) rfl (by kernel_rfl) (by kernel_rfl) (by kernel_rfl) (fun _ _ _ h => h) (Or.inl ⟨by rfl, ?_⟩) trivial ?_
    rotate_left
    · intro w hSw; first | (go_simp; done) | (go_simp; with_reducible rfl)
    try simp only [List.getElem_toArray, List.getElem_cons_zero, List.getElem_cons_succ, Act.put, List.setIfInBounds_toArray, List.set_cons_zero, List.set_cons_succ]
    refine wpAnyH_take (i := 8) (v := ?_) rfl (by kernel_rfl) (by kernel_rfl) (by kernel_rfl) (fun _ _ _ h => h) (Or.inl ⟨by rfl, ?_⟩) trivial ?_
    rotate_left
    · intro w hSw; first | (go_simp; done) | (go_simp; with_reducible rfl)
    try simp only [List.getElem_toArray, List.getElem_cons_zero, List.getElem_cons_succ, Act.put, List.setIfInBounds_toArray, List.set_cons_zero, List.set_cons_succ]
    refine wpAnyH_take (i := 9) (v := ?_) rfl (by kernel_rfl) (by kernel_rfl) (by kernel_rfl) (fun _ _ _ h => h) (Or.inl ⟨by rfl, ?_⟩) trivial ?_
    rotate_left
    · intro w hSw; first | (go_simp; done) | (go_simp; with_reducible rfl)
    try simp only [List.getElem_toArray, List.getElem_cons_zero, List.getElem_cons_succ, Act.put, List.setIfInBounds_toArray, List.set_cons_zero, List.set_cons_succ]
    refine wpAnyH_take (i := 10) (v := ?_) rfl (by kernel_rfl) (by kernel_rfl) (by kernel_rfl) (fun _ _ _ h => h) (Or.inl ⟨by rfl, ?_⟩) trivial ?_
    rotate_left
    · intro w hSw; first | (go_simp; done) | (go_simp; with_reducible rfl)
    try simp only [List.getElem_toArray, List.getElem_cons_zero, List.getElem_cons_succ, Act.put, List.setIfInBounds_toArray, List.set_cons_zero, List.set_cons_succ]
    refine wpAnyH_take (i := 11) (v := ?_) rfl (by kernel_rfl) (by kernel_rfl) (by kernel_rfl) (fun _ _ _ h => h) (Or.inl ⟨by rfl, ?_⟩) trivial ?_
    rotate_left
    · intro w hSw; first | (go_simp; done) | (go_simp; with_reducible rfl)
    try simp only [List.getElem_toArray, List.getElem_cons_zero, List.getElem_cons_succ, Act.put, List.setIfInBounds_toArray, List.set_cons_zero, List.set_cons_succ]
    refine wpAnyH_take (i := 12) (v := ?_) rfl (by kernel_rfl) (by kernel_rfl) (by kernel_rfl) (fun _ _ _ h => h) (Or.inl ⟨by rfl, ?_⟩) trivial ?_
    rotate_left
    · intro w hSw; first | (go_simp; done) | (go_simp; with_reducible rfl)
    try simp only [List.getElem_toArray, List.getElem_cons_zero, List.getElem_cons_succ, Act.put, List.setIfInBounds_toArray, List.set_cons_zero, List.set_cons_succ]
    refine wpAnyH_take (i := 13) (v := ?_) rfl (by kernel_rfl) (by kernel_rfl) (by kernel_rfl) (fun _ _ _ h => h) (Or.inl ⟨by rfl, ?_⟩) trivial ?_
    rotate_left
    · intro w hSw; first | (go_simp; done) | (go_simp; with_reducible rfl)
    try simp only [List.getElem_toArray, List.getElem_cons_zero, List.getElem_cons_succ, Act.put, List.setIfInBounds_toArray, List.set_cons_zero, List.set_cons_succ]
    refine wpAnyH_take (i := 14) (v := ?_) rfl (by kernel_rfl) (by kernel_rfl) (by kernel_rfl) (fun _ _ _ h => h) (Or.inl ⟨by rfl, ?_⟩) trivial ?_
    rotate_left
    · intro w hSw; first | (go_simp; done) | (go_simp; with_reducible rfl)
    try simp only [List.getElem_toArray, List.getElem_cons_zero, List.getElem_cons_succ, Act.put, List.setIfInBounds_toArray, List.set_cons_zero, List.set_cons_succ]
    refine wpAnyH_take (i := 15) (v := ?_) rfl (by kernel_rfl) (by kernel_rfl) (by kernel_rfl) (fun _ _ _ h => h) (Or.inl ⟨by rfl, ?_⟩) trivial ?_
    rotate_left
    · intro w hSw; first | (go_simp; done) | (go_simp; with_reducible rfl)
    try simp only [List.getElem_toArray, List.getElem_cons_zero, List.getElem_cons_succ, Act.put, List.setIfInBounds_toArray, List.set_cons_zero, List.set_cons_succ]
    refine wpAnyH_take (i := 16) (v := ?_) rfl (by kernel_rfl) (by kernel_rfl) (by kernel_rfl) (fun _ _ _ h => h) (Or.inl ⟨by rfl, ?_⟩) trivial ?_
    rotate_left
    · intro w hSw; first | (go_simp; done) | (go_simp; with_reducible rfl)
    try simp only [List.getElem_toArray, List.getElem_cons_zero, List.getElem_cons_succ, Act.put, List.setIfInBounds_toArray, List.set_cons_zero, List.set_cons_succ]
    refine wpAnyH_take (i := 17) (v := ?_) rfl (by kernel_rfl) (by kernel_rfl) (by kernel_rfl) (fun _ _ _ h => h) (Or.inl ⟨by rfl, ?_⟩) trivial ?_
    rotate_left
    · intro w hSw; first | (go_simp; done) | (go_simp; with_reducible rfl)
    try simp only [List.getElem_toArray, List.getElem_cons_zero, List.getElem_cons_succ, Act.put, List.setIfInBounds_toArray, List.set_cons_zero, List.set_cons_succ]
    refine wpAnyH_take (i := 18) (v := ?_) rfl (by kernel_rfl) (by kernel_rfl) (by kernel_rfl) (fun _ _ _ h => h) (Or.inl ⟨by rfl, ?_⟩) trivial ?_
    rotate_left
    · intro w hSw; first | (go_simp; done) | (go_simp; with_reducible rfl)
    try simp only [List.getElem_toArray, List.getElem_cons_zero, List.getElem_cons_succ, Act.put, List.setIfInBounds_toArray, List.set_cons_zero, List.set_cons_succ]
    refine wpAnyH_take (i := 21) (v := ?_) rfl (by kernel_rfl) (by kernel_rfl) (by kernel_rfl) (fun _ _ _ h => h) (Or.inl ⟨by rfl, ?_⟩) trivial ?_
    rotate_left
    · intro w hSw; first | (go_simp; done) | (go_simp; with_reducible rfl)
    try simp only [List.getElem_toArray, List.getElem_cons_zero, List.getElem_cons_succ, Act.put, List.setIfInBounds_toArray, List.set_cons_zero, List.set_cons_succ]
    refine wpAnyH_ready (rs := [19]) (by kernel_rfl) (by simp) ?_
    refine AllReadyH.cons rfl (fun K hK => ?_) AllReadyH.nil
    try simp only [List.getElem_toArray, List.getElem_cons_zero, List.getElem_cons_succ]
    go_simp
    refine (data w.heap.size 4 1 m true D5 n5 c5 Q1 w5.drew (HG5.out.keep (w' := w5.drew) rfl (fun _ _ _ => rfl)) hd5).mono ?_
    rintro e w6 ⟨v, rfl, hown, hbel⟩
    obtain ⟨A6, c6, rfl, _, _, _, hsl, _⟩ := Sl.of_own hown
    have hs1 := run_string_of (P := Try.prog) w6 27 5 Try.underlying27 Try.underlying5 A6 _ c6 _ hsl 9 Try.underlying9
    have HB6 : Hid (Below w.heap.size w w6) := HB5.out.drew.trans (hbel.mono HB5.out.size)
    have HG6 := Lib.hid (Gth.below (HG5.out.keep (w' := w5.drew) rfl (fun _ _ _ => rfl)) hbel)
    have HP6 := Lib.hid hsl
    clear hown hbel hsl
    try (go_wp2_with fail)
    refine hK.out _ _ trivial (fun hHeld => ?_)
    clear hK K
    try simp only [List.getElem_toArray, List.getElem_cons_zero, List.getElem_cons_succ, Act.put, List.setIfInBounds_toArray, List.set_cons_zero, List.set_cons_succ]
    refine wpAnyH_ready (rs := [20, 22]) (by kernel_rfl) (by simp) ?_
    refine AllReadyH.cons rfl (fun K hK => ?_) (AllReadyH.cons rfl (fun K hK => ?_) AllReadyH.nil)
    · skip
      try simp only [List.getElem_toArray, List.getElem_cons_zero, List.getElem_cons_succ]
      go_simp
      refine hK.out _ _ trivial (fun hHeld => ?_)
      clear hK K
      try simp only [List.getElem_toArray, List.getElem_cons_zero, List.getElem_cons_succ, Act.put, List.setIfInBounds_toArray, List.set_cons_zero, List.set_cons_succ]
      refine wpAnyH_ready (rs := [22]) (by kernel_rfl) (by simp) ?_
      refine AllReadyH.cons rfl (fun K hK => ?_) AllReadyH.nil
      try simp only [List.getElem_toArray, List.getElem_cons_zero, List.getElem_cons_succ]
      go_simp
      refine (HB.out w6 (HS2.out.below HB6.out)).mono ?_
      rintro e w7 ⟨v, rfl, hown, hbel⟩
      obtain ⟨A7, c7, rfl, _, _, _, hsl, _⟩ := Sl.of_own hown
      have hs1' := run_string_of (P := Try.prog) w7 27 5 Try.underlying27 Try.underlying5 A6 _ c6 _ (HP6.out.below hbel) 9 Try.underlying9
      have hs2 := run_string_of (P := Try.prog) w7 27 5 Try.underlying27 Try.underlying5 A7 _ c7 _ hsl 9 Try.underlying9
      have HB7 : Hid (Below w.heap.size w w7) := HB6.out.trans (hbel.mono HB6.out.size)
      have HG7 := Lib.hid (HG6.out.below hbel)
      clear hown hbel hsl
      try (go_wp2_with fail)
      refine hK.out _ _ trivial (fun hHeld => ?_)
      clear hK K
      try simp only [List.getElem_toArray, List.getElem_cons_zero, List.getElem_cons_succ, Act.put, List.setIfInBounds_toArray, List.set_cons_zero, List.set_cons_succ]
      refine wpAnyH_ready (rs := [23]) (by kernel_rfl) (by simp) ?_
      refine AllReadyH.cons rfl (fun K hK => ?_) AllReadyH.nil
      try simp only [List.getElem_toArray, List.getElem_cons_zero, List.getElem_cons_succ]
      go_simp
      refine hK.out _ _ trivial (fun hHeld => ?_)
      clear hK K
      try simp only [List.getElem_toArray, List.getElem_cons_zero, List.getElem_cons_succ, Act.put, List.setIfInBounds_toArray, List.set_cons_zero, List.set_cons_succ]
      refine wpAnyH_take (i := 24) (v := ?_) rfl (by kernel_rfl) (by kernel_rfl) (by kernel_rfl) (fun _ _ _ h => h) (Or.inl ⟨by rfl, ?_⟩) trivial ?_
      rotate_left
      · intro w hSw; first | (go_simp; done) | (go_simp; with_reducible rfl)
      try simp only [List.getElem_toArray, List.getElem_cons_zero, List.getElem_cons_succ, Act.put, List.setIfInBounds_toArray, List.set_cons_zero, List.set_cons_succ]
      refine wpAnyH_take (i := 25) (v := ?_) rfl (by kernel_rfl) (by kernel_rfl) (by kernel_rfl) (fun _ _ _ h => h) (Or.inl ⟨by rfl, ?_⟩) trivial ?_
      rotate_left
      · intro w hSw; first | (go_simp; done) | (go_simp; with_reducible rfl)
      try simp only [List.getElem_toArray, List.getElem_cons_zero, List.getElem_cons_succ, Act.put, List.setIfInBounds_toArray, List.set_cons_zero, List.set_cons_succ]
      refine wpAnyH_done (by kernel_rfl) ?_ _
      (go_wp2_with fail; go_meet; exact ⟨rfl, HB7, HG7⟩)
    · skip
      try simp only [List.getElem_toArray, List.getElem_cons_zero, List.getElem_cons_succ]
      go_simp
      refine (HB.out w6 (HS2.out.below HB6.out)).mono ?_
      rintro e w7 ⟨v, rfl, hown, hbel⟩
      obtain ⟨A7, c7, rfl, _, _, _, hsl, _⟩ := Sl.of_own hown
      have hs1' := run_string_of (P := Try.prog) w7 27 5 Try.underlying27 Try.underlying5 A6 _ c6 _ (HP6.out.below hbel) 9 Try.underlying9
      have hs2 := run_string_of (P := Try.prog) w7 27 5 Try.underlying27 Try.underlying5 A7 _ c7 _ hsl 9 Try.underlying9
      have HB7 : Hid (Below w.heap.size w w7) := HB6.out.trans (hbel.mono HB6.out.size)
      have HG7 := Lib.hid (HG6.out.below hbel)
      clear hown hbel hsl
      try (go_wp2_with fail)
      refine hK.out _ _ trivial (fun hHeld => ?_)
      clear hK K
      try simp only [List.getElem_toArray, List.getElem_cons_zero, List.getElem_cons_succ, Act.put, List.setIfInBounds_toArray, List.set_cons_zero, List.set_cons_succ]
      refine wpAnyH_ready (rs := [20, 23]) (by kernel_rfl) (by simp) ?_
      refine AllReadyH.cons rfl (fun K hK => ?_) (AllReadyH.cons rfl (fun K hK => ?_) AllReadyH.nil)
      · skip
        try simp only [List.getElem_toArray, List.getElem_cons_zero, List.getElem_cons_succ]
        go_simp
        refine hK.out _ _ trivial (fun hHeld => ?_)
        clear hK K
        try simp only [List.getElem_toArray, List.getElem_cons_zero, List.getElem_cons_succ, Act.put, List.setIfInBounds_toArray, List.set_cons_zero, List.set_cons_succ]
        refine wpAnyH_ready (rs := [23]) (by kernel_rfl) (by simp) ?_
        refine AllReadyH.cons rfl (fun K hK => ?_) AllReadyH.nil
        try simp only [List.getElem_toArray, List.getElem_cons_zero, List.getElem_cons_succ]
        go_simp
        refine hK.out _ _ trivial (fun hHeld => ?_)
        clear hK K
        try simp only [List.getElem_toArray, List.getElem_cons_zero, List.getElem_cons_succ, Act.put, List.setIfInBounds_toArray, List.set_cons_zero, List.set_cons_succ]
        refine wpAnyH_take (i := 24) (v := ?_) rfl (by kernel_rfl) (by kernel_rfl) (by kernel_rfl) (fun _ _ _ h => h) (Or.inl ⟨by rfl, ?_⟩) trivial ?_
        rotate_left
        · intro w hSw; first | (go_simp; done) | (go_simp; with_reducible rfl)
        try simp only [List.getElem_toArray, List.getElem_cons_zero, List.getElem_cons_succ, Act.put, List.setIfInBounds_toArray, List.set_cons_zero, List.set_cons_succ]
        refine wpAnyH_take (i := 25) (v := ?_) rfl (by kernel_rfl) (by kernel_rfl) (by kernel_rfl) (fun _ _ _ h => h) (Or.inl ⟨by rfl, ?_⟩) trivial ?_
        rotate_left
        · intro w hSw; first | (go_simp; done) | (go_simp; with_reducible rfl)
        try simp only [List.getElem_toArray, List.getElem_cons_zero, List.getElem_cons_succ, Act.put, List.setIfInBounds_toArray, List.set_cons_zero, List.set_cons_succ]
        refine wpAnyH_done (by kernel_rfl) ?_ _
        (go_wp2_with fail; go_meet; exact ⟨rfl, HB7, HG7⟩)
      · skip
        try simp only [List.getElem_toArray, List.getElem_cons_zero, List.getElem_cons_succ]
        go_simp
        refine hK.out _ _ trivial (fun hHeld => ?_)
        clear hK K
        try simp only [List.getElem_toArray, List.getElem_cons_zero, List.getElem_cons_succ, Act.put, List.setIfInBounds_toArray, List.set_cons_zero, List.set_cons_succ]
        refine wpAnyH_ready (rs := [20]) (by kernel_rfl) (by simp) ?_
        refine AllReadyH.cons rfl (fun K hK => ?_) AllReadyH.nil
        try simp only [List.getElem_toArray, List.getElem_cons_zero, List.getElem_cons_succ]
        go_simp
        refine hK.out _ _ trivial (fun hHeld => ?_)
        clear hK K
        try simp only [List.getElem_toArray, List.getElem_cons_zero, List.getElem_cons_succ, Act.put, List.setIfInBounds_toArray, List.set_cons_zero, List.set_cons_succ]
        refine wpAnyH_take (i := 24) (v := ?_) rfl (by kernel_rfl) (by kernel_rfl) (by kernel_rfl) (fun _ _ _ h => h) (Or.inl ⟨by rfl, ?_⟩) trivial ?_
        rotate_left
        · intro w hSw; first | (go_simp; done) | (go_simp; with_reducible rfl)
        try simp only [List.getElem_toArray, List.getElem_cons_zero, List.getElem_cons_succ, Act.put, List.setIfInBounds_toArray, List.set_cons_zero, List.set_cons_succ]
        refine wpAnyH_take (i := 25) (v := ?_) rfl (by kernel_rfl) (by kernel_rfl) (by kernel_rfl) (fun _ _ _ h => h) (Or.inl ⟨by rfl, ?_⟩) trivial ?_
        rotate_left
        · intro w hSw; first | (go_simp; done) | (go_simp; with_reducible rfl)
        try simp only [List.getElem_toArray, List.getElem_cons_zero, List.getElem_cons_succ, Act.put, List.setIfInBounds_toArray, List.set_cons_zero, List.set_cons_succ]
        refine wpAnyH_done (by kernel_rfl) ?_ _
        (go_wp2_with fail; go_meet; exact ⟨rfl, HB7, HG7⟩)
  case rest =>
    obtain ⟨rfl, HB8, HG8⟩ := hcut
    clear hmm hall hwm HG5 HB5
    by_cases ha1 : at_ < 1
    · go_wp2
      go_ret
      exact ⟨rfl, HB8.out⟩
    · have ha1' : 1 ≤ at_ := by omega
      by_cases ha2 : (n : Int) < at_
      · go_wp2
        go_ret
        exact ⟨rfl, HB8.out⟩
      · have ha2' : at_ ≤ (n : Int) := by omega
        obtain ⟨k, rfl⟩ := Int.eq_ofNat_of_zero_le (show 0 ≤ at_ by omega)
        clear ha1 ha2
        have hwn : IntKind.u64.wrap (k : Int) = (k : Int) := by rw [IntKind.wrap_u64]; omega
        have hz0 : ((0 : Int) == (n : Int)) = false := beq_eq_false_iff_ne.2 (by omega)
        go_wp2_with fail
        refine (HT.out k wc (HS.out.below HB8.out)).mono ?_
        rintro e w9 ⟨v, rfl, hown, hbel⟩
        obtain ⟨A9, c9, rfl, _, _, _, hsl, hblk⟩ := Sl.of_own hown
        have HB9 : Hid (Below w.heap.size w w9) := HB8.out.trans (hbel.mono HB8.out.size)
        have HG9 := Lib.hid (HG8.out.below hbel)
        clear hown hbel hsl hblk HB8 HG8 hwn
        go_wp2_with fail
        refine (take_diff_ign w.heap.size 3 1 n k 4 1 m true D5 n5 c5 Q1 A9 (min (n - k) 4096) c9 w9 (by omega) (by omega) (by omega) (by omega) (by omega) (by omega) HG9.out rfl).mono ?_
        rintro e w10 ⟨D10, n10, c10, rfl, hg10, hgr10, _⟩
        have HB10 : Hid (Below w.heap.size w w10) := HB9.out.grown hgr10 HB9.out.size (fun k hk => by injection hk with hk; omega)
        obtain rfl : n10 = 0 := hg10.len
        have HG10 := Lib.hid hg10
        clear hg10 hgr10 HB9 HG9
        go_wp2_with fail
        refine (data w.heap.size 3 1 n true D10 0 c10 [] w10 HG10.out (by omega)).mono ?_
        rintro e w11 ⟨v, rfl, hown, hbel⟩
        obtain ⟨A11, c11, rfl, _, _, _, _, _⟩ := Sl.of_own hown
        have HB11 : Hid (Below w.heap.size w w11) := HB10.out.trans (hbel.mono HB10.out.size)
        clear hown hbel
        go_wp2
        go_ret
        exact ⟨rfl, HB11.out⟩

theorem walk_switch (A B : Option Addr) (n c m d : Nat) (l l2 : List Int) (at_ : Int) (w : World) (hS : Sl w 1 A n (bcs l)) (hS2 : Sl w 1 B m (bcs l2)) (hnc : n ≤ c) (hmd : m ≤ d) (hc : c ≤ maxLen) (hd : d ≤ maxLen)
    (hb : n * 1 ≤ 140737488355328) (hb2 : m * 1 ≤ 140737488355328) (hN : A = none → n = 0 ∧ c = 0) (hM : B = none → m = 0 ∧ d = 0) :
    Calls Try.prog 6 #[.slice A n c, .slice B m d, .int .i64 at_] w fun e w' => e = .returned (.bool true) ∧ Below w.heap.size w w' := by
  unfold maxLen at hc hd
  by_cases h : n = 0 ∨ 10000 < n ∨ 10000 < m
  · exact switch_idle A B n c m d at_ w (by omega) (by omega) h
  · have hA : ∀ (k : Nat) w, Sl w 1 A n (bcs l) → Calls Try.prog 12 #[.slice A n c, .int .u64 (k : Nat)] w (Made w (min (n - k) 4096) (bcs ((l.drop k).take 4096))) := fun k w hs => cut A n c k l w hs hnc hc (by omega) hN
    have hB := fun w (hs : Sl w 1 B m (bcs l2)) => cut B m d 0 l2 w hs hmd hd (by omega) hM
    exact switch_main A B n c m d (min (n - 0) 4096) (min (m - 0) 4096) l l2 _ _ at_ w hS hS2 (fun w hs => hA 0 w hs) hB hA (by omega) (by omega) (by omega) (beq_eq_false_iff_ne.2 (by omega)) (by omega) (by omega)

end Go.Proofs.Ytkkgnehpokeffaa.Chunk
