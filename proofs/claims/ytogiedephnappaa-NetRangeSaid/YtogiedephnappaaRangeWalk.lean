/- The walk of dockyardlaw03.NetRange. -/
import Derived.Test.YtogiedephnappaaRangeWords
namespace Go.Proofs.Ytogiedephnappaa.Net
open Go.RowKit Go.Proofs.Ytogiedephnappaa.Mem
attribute [local go_sem] Oper.semAt_some wide_depth

/-- Behind run: a net that agrees, its pointer in its box, the reference's net in its own. -/
def Rc (b : Nat) (wb wx : World) (room : Int) (g t7 t9 n : Nat) : Prop := Cn b wb wx room g t9 n ∧ Blk wx t7 23 #[.pointer (some ⟨g, 0, none⟩)]

theorem rc_of {b : Nat} {wb W : World} {g g0 t7 t9 n : Nat} {v : Value} {room : Int} {l rl : List Ms} {A : Option Addr} {c : Nat} (hG : Good b W g v room l (.slice A rl.length c) rl) (h7 : Blk W t7 23 #[.pointer (some ⟨g0, 0, none⟩)]) (hB : Blk W t9 28 #[.int .i64 0, .slice none 0 0]) (hb : Below b wb W) (hl : l.length ≤ n) (ht : b ≤ t9) (ht7 : b ≤ t7) :
    Rc b wb (((W.setCell ⟨t7, 0, none⟩ (.pointer (some ⟨g, 0, none⟩))).setCell ⟨t9, 0, none⟩ (.int .i64 room)).setCell ⟨t9, 1, none⟩ (.slice A rl.length c)) room g t7 t9 n := by
  have hne : t7 ≠ t9 := h7.ne_ hB (by decide)
  refine ⟨cn_of (hG.box (p := ⟨t7, 0, none⟩) h7 (by decide) (by decide) (by decide) (by decide) ht7 _) (hB.far (p := ⟨t7, 0, none⟩) hne.symm _) (hb.setCell (p := ⟨t7, 0, none⟩) ht7 _) hl ht, ?_⟩
  have h := h7.set_ 0 (.pointer (some ⟨g, 0, none⟩))
  have h2 : Blk (W.setCell ⟨t7, 0, none⟩ (.pointer (some ⟨g, 0, none⟩))) t7 23 #[.pointer (some ⟨g, 0, none⟩)] := by simpa using h
  exact (h2.far (p := ⟨t9, 0, none⟩) hne _).far (p := ⟨t9, 1, none⟩) hne _

theorem cell_far {W : World} {a o t : Nat} {z : Value} (h : W.cell? ⟨a, o, none⟩ = some z) (hne : a ≠ t) (x : Value) : (W.setCell ⟨t, 0, none⟩ x).cell? ⟨a, o, none⟩ = some z :=
  (World.cell?_setCell_other _ _ _ _ (by intro h; simp only [Addr.mk.injEq] at h; omega)).trans h

theorem sl123 (w : World) : Sl (w.alloc (.cells #[.int .u8 1, .int .u8 2, .int .u8 3] 5)) 1 (some ⟨w.heap.size, 0, none⟩) ([1, 2, 3] : List Int).length (bcs [1, 2, 3]) := by
  refine ⟨rfl, fun _ => ⟨w.heap.size, 0, rfl, fun j z hz => ?_⟩⟩
  rw [Nat.zero_add, (Blk.new w 5 _).cell]
  simpa [bcs] using hz

/-- What a round is walked from. -/
def AxR (T : Array Value) (l : List Ms) (d : Int) (Q k : Nat) (a' : Act) (W : World) : Prop :=
  ∃ x U cu, l[k]? = some x ∧ x.dst = d ∧ W.ownsRow Q 5 1 (.slice U x.raw.length cu) x.raw.length (bcs x.raw) ∧
    a' = { tmps := (((T.setIfInBounds 39 (.int .i64 k)).setIfInBounds 40 (.slice U x.raw.length cu)).setIfInBounds 11 (.int .i64 k)).setIfInBounds 12 (.slice U x.raw.length cu), defers := [] }

/-- The count in a box. -/
def ctr (W : World) (t : Nat) : Nat := match W.cell? ⟨t, 0, none⟩ with
  | some v => (intOf v).toNat
  | none => 0
theorem blk0 {W : World} {t : Nat} {ty : TypeId} {v : Value} (h : Blk W t ty #[v]) : W.cell? ⟨t, 0, none⟩ = some v := (h.cell 0).trans rfl
theorem ctr_of {W : World} {t k : Nat} (h : Blk W t 3 #[.int .i64 (k : Int)]) : ctr W t = k := by
  unfold ctr
  rw [blk0 h]
  simp [intOf]

set_option linter.unusedSimpArgs false in
set_option maxRecDepth 100000 in
set_option maxHeartbeats 2000000 in
theorem range_walk (room : Int) (A : Option Addr) (cap : Nat) (ops : List Cl) (d : Int) (w : World) (hS : Script w A ops) :
    Calls Try.prog 3 #[.int .i64 room, .slice A ops.length cap, .int .i64 d] w fun e w' => e = .returned (.bool true) ∧ Below w.heap.size w w' := by
  have hB0 := ((Below.refl w.heap.size w).alloc (Nat.le_refl _) (.cells #[.int .i64 d] 3)).alloc (by simp) (.cells #[.bool false] 4)
  have HK5 : Hid (Blk ((w.alloc (.cells #[.int .i64 d] 3)).alloc (.cells #[.bool false] 4)) w.heap.size 3 #[.int .i64 d]) := (Blk.new w 3 _).alloc _
  have HK6 : Hid (Blk ((w.alloc (.cells #[.int .i64 d] 3)).alloc (.cells #[.bool false] 4)) (w.heap.size + 1) 4 #[.bool false]) := by
    have h := Blk.new (w.alloc (.cells #[.int .i64 d] 3)) 4 #[.bool false]
    have e : (w.alloc (.cells #[.int .i64 d] 3)).heap.size = w.heap.size + 1 := by simp
    rw [e] at h
    exact h
  have hln := hS.len
  have HSb := Lib.hid (hS.below hB0)
  have HB0 := Lib.hid hB0
  clear hS hB0
  refine (callsIn_wide (n := 0)).1 ?_
  refine callsIn_of_wp_marks Try.func3 rfl trivial ?_ rfl
  refine wpIn_wide.2 ?_
  simp only [Try.ntmps3, List.size_toArray, List.length_cons, List.length_nil, Nat.reduceAdd, Nat.reduceSub, Array.replicate_succ, Array.replicate_zero, List.push_toArray, List.append_toArray, List.nil_append, List.cons_append]
  go_wp2_with fail
  refine (begun room _).mono ?_
  rintro e w1 ⟨g, rfl, hO, hB⟩
  have hz0 : ((w.alloc (.cells #[.int .i64 d] 3)).alloc (.cells #[.bool false] 4)).heap.size = w.heap.size + 2 := by simp
  obtain ⟨wb, hwb⟩ : ∃ wb, wb = (w.alloc (.cells #[.int .i64 d] 3)).alloc (.cells #[.bool false] 4) := ⟨_, rfl⟩
  rw [← hwb] at hO hB HSb HK5 HK6 HB0 hz0
  have HO := Lib.hid hO
  have HB := Lib.hid hB
  have hz1 := hB.size
  clear hO hB hwb
  go_upto_region 4 with fail
  go_cut [8, 9] from 20 to 28 (fun v8 v9 wx => ∃ g3 t9 : Nat, v8 = .bool true ∧ v9 = .pointer (some ⟨t9, 0, none⟩) ∧ Hid (Rc wb.heap.size wb wx (max room 0) g3 w1.heap.size t9 ops.length))
  case first =>
    go_wp2_with fail
    refine wp_mono (Q := Exit.then _ (fun _ _ _ => False)) ?_ (fun e a w h => by cases e with | normal => exact h | _ => exact h.elim)
    have HBB : Hid (Below wb.heap.size wb (w1.alloc (.cells #[.pointer (some ⟨g, 0, none⟩)] 23)).drew) := (HB.out.alloc HB.out.size _).drew
    have HBX1 : Hid (Below w1.heap.size w1 (w1.alloc (.cells #[.pointer (some ⟨g, 0, none⟩)] 23)).drew) := ((Below.refl _ _).alloc (Nat.le_refl _) _).drew
    have HT7 : Hid (Blk (w1.alloc (.cells #[.pointer (some ⟨g, 0, none⟩)] 23)).drew w1.heap.size 23 #[.pointer (some ⟨g, 0, none⟩)]) := (Blk.new w1 23 _).drew
    refine wp_region_held_drew (S := fun _ => True) (by kernel_rfl) trivial (fun hHeld => ?_)
    obtain ⟨W0, hW0⟩ : ∃ W0, W0 = (w1.alloc (.cells #[.pointer (some ⟨g, 0, none⟩)] 23)).drew := ⟨_, rfl⟩
    rw [← hW0] at HBB HBX1 HT7 ⊢
    clear hW0
    have c7 : W0.cell? ⟨w1.heap.size, 0, none⟩ = some (.pointer (some ⟨g, 0, none⟩)) := (HT7.out.cell 0).trans rfl
    have f7 := HT7.out.frozen 0
    refine wpAnyH_take (i := 1) (v := ?_) rfl (by kernel_rfl) (by kernel_rfl) (by kernel_rfl) (fun _ _ _ h => h) (Or.inl ⟨by rfl, ?_⟩) trivial ?_
    rotate_left
    · intro w hSw; first | (go_simp; done) | (go_simp; with_reducible rfl)
    try simp only [List.getElem_toArray, List.getElem_cons_zero, List.getElem_cons_succ, Act.put, List.setIfInBounds_toArray, List.set_cons_zero, List.set_cons_succ]
    refine wpAnyH_take (i := 3) (v := ?_) rfl (by kernel_rfl) (by kernel_rfl) (by kernel_rfl) (fun _ _ _ h => h) (Or.inl ⟨by rfl, ?_⟩) trivial ?_
    rotate_left
    · intro w hSw; first | (go_simp; done) | (go_simp; with_reducible rfl)
    try simp only [List.getElem_toArray, List.getElem_cons_zero, List.getElem_cons_succ, Act.put, List.setIfInBounds_toArray, List.set_cons_zero, List.set_cons_succ]
    refine wpAnyH_ready (rs := [0, 2, 9]) (by kernel_rfl) (by simp) ?_
    refine AllReadyH.cons rfl (fun K hK => ?_) (AllReadyH.cons rfl (fun K hK => ?_) (AllReadyH.cons rfl (fun K hK => ?_) AllReadyH.nil))
    · skip
      try simp only [List.getElem_toArray, List.getElem_cons_zero, List.getElem_cons_succ]
      go_simp
      refine hK.out _ _ trivial (fun hHeld => ?_)
      clear hK K
      try simp only [List.getElem_toArray, List.getElem_cons_zero, List.getElem_cons_succ, Act.put, List.setIfInBounds_toArray, List.set_cons_zero, List.set_cons_succ]
      refine wpAnyH_ready (rs := [2, 9]) (by kernel_rfl) (by simp) ?_
      refine AllReadyH.cons rfl (fun K hK => ?_) (AllReadyH.cons rfl (fun K hK => ?_) AllReadyH.nil)
      · skip
        try simp only [List.getElem_toArray, List.getElem_cons_zero, List.getElem_cons_succ]
        go_simp
        refine (ref_new room _).mono ?_
        rintro e wn ⟨rfl, hbn⟩
        have HBB := Lib.hid (HBB.out.trans (hbn.mono HBB.out.size))
        have HBX1 := Lib.hid (HBX1.out.trans (hbn.mono HBX1.out.size))
        have HT7 := Lib.hid (HT7.out.below hbn)
        try have HB7 := Lib.hid (HB7.out.below hbn)
        clear hbn c7 f7
        have c7 : wn.cell? ⟨w1.heap.size, 0, none⟩ = some (.pointer (some ⟨g, 0, none⟩)) := (HT7.out.cell 0).trans rfl
        have f7 := HT7.out.frozen 0
        try have c70 : wn.cell? ⟨t9, 0, none⟩ = some (.int .i64 0) := (HB7.out.cell 0).trans rfl
        try have c71 : wn.cell? ⟨t9, 1, none⟩ = some (.slice none 0 0) := (HB7.out.cell 1).trans rfl
        try have f70 := HB7.out.frozen 0
        try have f71 := HB7.out.frozen 1
        try (go_wp2_with fail)
        refine hK.out _ _ trivial (fun hHeld => ?_)
        clear hK K
        try simp only [List.getElem_toArray, List.getElem_cons_zero, List.getElem_cons_succ, Act.put, List.setIfInBounds_toArray, List.set_cons_zero, List.set_cons_succ]
        refine wpAnyH_ready (rs := [4, 9]) (by kernel_rfl) (by simp) ?_
        refine AllReadyH.cons rfl (fun K hK => ?_) (AllReadyH.cons rfl (fun K hK => ?_) AllReadyH.nil)
        · skip
          try simp only [List.getElem_toArray, List.getElem_cons_zero, List.getElem_cons_succ]
          go_simp
          refine (run_new wb w1 _ g room A cap ops HO.out HB.out HBX1.out HSb.out).mono ?_
          rintro e wn ⟨g3, v3, A4, c4, l3, rl3, rfl, hG, hl, hk, hf⟩
          have HT7 := Lib.hid (Own.blk (b := wb.heap.size) ⟨HO.out.net.below HBX1.out, HO.out.hg, HO.out.hv⟩ HT7.out hk (by decide) (by decide))
          try have HB7 := Lib.hid (Own.blk (b := wb.heap.size) ⟨HO.out.net.below HBX1.out, HO.out.hg, HO.out.hv⟩ HB7.out hk (by decide) (by decide))
          have HBB := Lib.hid (hk.out HBB.out (fun k h => HO.out.nb k h) HBB.out.size)
          have HG := Lib.hid hG
          have hl3 : l3.length ≤ ops.length := by simpa using hl
          clear hG hl hk hf c7 f7
          have c7 : wn.cell? ⟨w1.heap.size, 0, none⟩ = some (.pointer (some ⟨g, 0, none⟩)) := (HT7.out.cell 0).trans rfl
          have f7 := HT7.out.frozen 0
          try have c70 : wn.cell? ⟨t9, 0, none⟩ = some (.int .i64 0) := (HB7.out.cell 0).trans rfl
          try have c71 : wn.cell? ⟨t9, 1, none⟩ = some (.slice none 0 0) := (HB7.out.cell 1).trans rfl
          try have f70 := HB7.out.frozen 0
          try have f71 := HB7.out.frozen 1
          try (go_wp2_with fail)
          refine hK.out _ _ trivial (fun hHeld => ?_)
          clear hK K
          try simp only [List.getElem_toArray, List.getElem_cons_zero, List.getElem_cons_succ, Act.put, List.setIfInBounds_toArray, List.set_cons_zero, List.set_cons_succ]
          refine wpAnyH_take (i := 5) (v := ?_) rfl (by kernel_rfl) (by kernel_rfl) (by kernel_rfl) (fun _ _ _ h => h) (Or.inl ⟨by rfl, ?_⟩) trivial ?_
          rotate_left
          · intro w hSw; first | (go_simp; done) | (go_simp; with_reducible rfl)
          try simp only [List.getElem_toArray, List.getElem_cons_zero, List.getElem_cons_succ, Act.put, List.setIfInBounds_toArray, List.set_cons_zero, List.set_cons_succ]
          refine wpAnyH_take (i := 6) (v := ?_) rfl (by kernel_rfl) (by kernel_rfl) (by kernel_rfl) (fun _ _ _ h => h) (Or.inl ⟨by rfl, ?_⟩) trivial ?_
          rotate_left
          · intro w hSw; first | (go_simp; done) | (go_simp; with_reducible rfl)
          try simp only [List.getElem_toArray, List.getElem_cons_zero, List.getElem_cons_succ, Act.put, List.setIfInBounds_toArray, List.set_cons_zero, List.set_cons_succ]
          refine wpAnyH_take (i := 7) (v := ?_) rfl (by kernel_rfl) (by kernel_rfl) (by kernel_rfl) (fun _ _ _ h => h) (Or.inl ⟨by rfl, ?_⟩) trivial ?_
          rotate_left
          · intro w hSw; first | (go_simp; done) | (go_simp; with_reducible rfl)
          try simp only [List.getElem_toArray, List.getElem_cons_zero, List.getElem_cons_succ, Act.put, List.setIfInBounds_toArray, List.set_cons_zero, List.set_cons_succ]
          refine wpAnyH_take (i := 8) (v := ?_) rfl (by kernel_rfl) (by kernel_rfl) (by kernel_rfl) (fun _ _ _ h => h) (Or.inl ⟨by rfl, ?_⟩) trivial ?_
          rotate_left
          · intro w hSw; first | (go_simp; done) | (go_simp; with_reducible rfl)
          try simp only [List.getElem_toArray, List.getElem_cons_zero, List.getElem_cons_succ, Act.put, List.setIfInBounds_toArray, List.set_cons_zero, List.set_cons_succ]
          refine wpAnyH_ready (rs := [9]) (by kernel_rfl) (by simp) ?_
          refine AllReadyH.cons rfl (fun K hK => ?_) AllReadyH.nil
          try simp only [List.getElem_toArray, List.getElem_cons_zero, List.getElem_cons_succ]
          go_simp
          obtain ⟨t9, ht9, hbt9⟩ := size_ex HBB.out (Nat.le_refl _)
          have HB7 := Lib.hid (blk_new_of HBB.out 28 #[.int .i64 0, .slice none 0 0])
          try have HG := Lib.hid (HG.out.below ((Below.refl _ _).alloc (Nat.le_refl _) (.cells #[.int .i64 0, .slice none 0 0] 28)))
          have HT7 := Lib.hid (HT7.out.alloc (.cells #[.int .i64 0, .slice none 0 0] 28))
          have HBX1 := Lib.hid (HBX1.out.alloc HBX1.out.size (.cells #[.int .i64 0, .slice none 0 0] 28))
          have HBB := Lib.hid (HBB.out.alloc HBB.out.size (.cells #[.int .i64 0, .slice none 0 0] 28))
          rw [← ht9] at HB7 ⊢
          clear ht9 c7 f7
          have c7 : _ = some (Value.pointer (some ⟨g, 0, none⟩)) := (HT7.out.cell 0).trans rfl
          have f7 := HT7.out.frozen 0
          have c70 : _ = some (Value.int .i64 0) := (HB7.out.cell 0).trans rfl
          have c71 : _ = some (Value.slice none 0 0) := (HB7.out.cell 1).trans rfl
          have f70 := HB7.out.frozen 0
          have f71 := HB7.out.frozen 1
          try (go_wp2_with fail)
          refine hK.out _ _ trivial (fun hHeld => ?_)
          clear hK K
          try simp only [List.getElem_toArray, List.getElem_cons_zero, List.getElem_cons_succ, Act.put, List.setIfInBounds_toArray, List.set_cons_zero, List.set_cons_succ]
          refine wpAnyH_ready (rs := [10]) (by kernel_rfl) (by simp) ?_
          refine AllReadyH.cons rfl (fun K hK => ?_) AllReadyH.nil
          try simp only [List.getElem_toArray, List.getElem_cons_zero, List.getElem_cons_succ]
          go_simp
          have hne : t9 ≠ w1.heap.size := HB7.out.ne_ HT7.out (by decide)
          have e70 := cell_far c70 hne (.pointer (some ⟨g3, 0, none⟩))
          have e71 := cell_far c71 hne (.pointer (some ⟨g3, 0, none⟩))
          clear c70 c71 c7
          try (go_wp2_with fail)
          refine hK.out _ _ trivial (fun hHeld => ?_)
          clear hK K
          try simp only [List.getElem_toArray, List.getElem_cons_zero, List.getElem_cons_succ, Act.put, List.setIfInBounds_toArray, List.set_cons_zero, List.set_cons_succ]
          refine wpAnyH_ready (rs := [11]) (by kernel_rfl) (by simp) ?_
          refine AllReadyH.cons rfl (fun K hK => ?_) AllReadyH.nil
          try simp only [List.getElem_toArray, List.getElem_cons_zero, List.getElem_cons_succ]
          go_simp
          refine hK.out _ _ trivial (fun hHeld => ?_)
          clear hK K
          try simp only [List.getElem_toArray, List.getElem_cons_zero, List.getElem_cons_succ, Act.put, List.setIfInBounds_toArray, List.set_cons_zero, List.set_cons_succ]
          refine wpAnyH_take (i := 12) (v := ?_) rfl (by kernel_rfl) (by kernel_rfl) (by kernel_rfl) (fun _ _ _ h => h) (Or.inl ⟨by rfl, ?_⟩) trivial ?_
          rotate_left
          · intro w hSw; first | (go_simp; done) | (go_simp; with_reducible rfl)
          try simp only [List.getElem_toArray, List.getElem_cons_zero, List.getElem_cons_succ, Act.put, List.setIfInBounds_toArray, List.set_cons_zero, List.set_cons_succ]
          refine wpAnyH_done (by kernel_rfl) ?_ _
          (go_wp2_with fail; go_meet; exact ⟨g3, t9, rfl, rfl, rc_of HG.out HT7.out HB7.out HBB.out hl3 hbt9 hz1⟩)
        · skip
          try simp only [List.getElem_toArray, List.getElem_cons_zero, List.getElem_cons_succ]
          go_simp
          obtain ⟨t9, ht9, hbt9⟩ := size_ex HBB.out (Nat.le_refl _)
          have HB7 := Lib.hid (blk_new_of HBB.out 28 #[.int .i64 0, .slice none 0 0])
          try have HG := Lib.hid (HG.out.below ((Below.refl _ _).alloc (Nat.le_refl _) (.cells #[.int .i64 0, .slice none 0 0] 28)))
          have HT7 := Lib.hid (HT7.out.alloc (.cells #[.int .i64 0, .slice none 0 0] 28))
          have HBX1 := Lib.hid (HBX1.out.alloc HBX1.out.size (.cells #[.int .i64 0, .slice none 0 0] 28))
          have HBB := Lib.hid (HBB.out.alloc HBB.out.size (.cells #[.int .i64 0, .slice none 0 0] 28))
          rw [← ht9] at HB7 ⊢
          clear ht9 c7 f7
          have c7 : _ = some (Value.pointer (some ⟨g, 0, none⟩)) := (HT7.out.cell 0).trans rfl
          have f7 := HT7.out.frozen 0
          have c70 : _ = some (Value.int .i64 0) := (HB7.out.cell 0).trans rfl
          have c71 : _ = some (Value.slice none 0 0) := (HB7.out.cell 1).trans rfl
          have f70 := HB7.out.frozen 0
          have f71 := HB7.out.frozen 1
          try (go_wp2_with fail)
          refine hK.out _ _ trivial (fun hHeld => ?_)
          clear hK K
          try simp only [List.getElem_toArray, List.getElem_cons_zero, List.getElem_cons_succ, Act.put, List.setIfInBounds_toArray, List.set_cons_zero, List.set_cons_succ]
          refine wpAnyH_ready (rs := [4]) (by kernel_rfl) (by simp) ?_
          refine AllReadyH.cons rfl (fun K hK => ?_) AllReadyH.nil
          try simp only [List.getElem_toArray, List.getElem_cons_zero, List.getElem_cons_succ]
          go_simp
          refine (run_new wb w1 _ g room A cap ops HO.out HB.out HBX1.out HSb.out).mono ?_
          rintro e wn ⟨g3, v3, A4, c4, l3, rl3, rfl, hG, hl, hk, hf⟩
          have HT7 := Lib.hid (Own.blk (b := wb.heap.size) ⟨HO.out.net.below HBX1.out, HO.out.hg, HO.out.hv⟩ HT7.out hk (by decide) (by decide))
          try have HB7 := Lib.hid (Own.blk (b := wb.heap.size) ⟨HO.out.net.below HBX1.out, HO.out.hg, HO.out.hv⟩ HB7.out hk (by decide) (by decide))
          have HBB := Lib.hid (hk.out HBB.out (fun k h => HO.out.nb k h) HBB.out.size)
          have HG := Lib.hid hG
          have hl3 : l3.length ≤ ops.length := by simpa using hl
          clear hG hl hk hf c7 f7
          have c7 : wn.cell? ⟨w1.heap.size, 0, none⟩ = some (.pointer (some ⟨g, 0, none⟩)) := (HT7.out.cell 0).trans rfl
          have f7 := HT7.out.frozen 0
          try have c70 : wn.cell? ⟨t9, 0, none⟩ = some (.int .i64 0) := (HB7.out.cell 0).trans rfl
          try have c71 : wn.cell? ⟨t9, 1, none⟩ = some (.slice none 0 0) := (HB7.out.cell 1).trans rfl
          try have f70 := HB7.out.frozen 0
          try have f71 := HB7.out.frozen 1
          try (go_wp2_with fail)
          refine hK.out _ _ trivial (fun hHeld => ?_)
          clear hK K
          try simp only [List.getElem_toArray, List.getElem_cons_zero, List.getElem_cons_succ, Act.put, List.setIfInBounds_toArray, List.set_cons_zero, List.set_cons_succ]
          refine wpAnyH_take (i := 5) (v := ?_) rfl (by kernel_rfl) (by kernel_rfl) (by kernel_rfl) (fun _ _ _ h => h) (Or.inl ⟨by rfl, ?_⟩) trivial ?_
          rotate_left
          · intro w hSw; first | (go_simp; done) | (go_simp; with_reducible rfl)
          try simp only [List.getElem_toArray, List.getElem_cons_zero, List.getElem_cons_succ, Act.put, List.setIfInBounds_toArray, List.set_cons_zero, List.set_cons_succ]
          refine wpAnyH_take (i := 6) (v := ?_) rfl (by kernel_rfl) (by kernel_rfl) (by kernel_rfl) (fun _ _ _ h => h) (Or.inl ⟨by rfl, ?_⟩) trivial ?_
          rotate_left
          · intro w hSw; first | (go_simp; done) | (go_simp; with_reducible rfl)
          try simp only [List.getElem_toArray, List.getElem_cons_zero, List.getElem_cons_succ, Act.put, List.setIfInBounds_toArray, List.set_cons_zero, List.set_cons_succ]
          refine wpAnyH_take (i := 7) (v := ?_) rfl (by kernel_rfl) (by kernel_rfl) (by kernel_rfl) (fun _ _ _ h => h) (Or.inl ⟨by rfl, ?_⟩) trivial ?_
          rotate_left
          · intro w hSw; first | (go_simp; done) | (go_simp; with_reducible rfl)
          try simp only [List.getElem_toArray, List.getElem_cons_zero, List.getElem_cons_succ, Act.put, List.setIfInBounds_toArray, List.set_cons_zero, List.set_cons_succ]
          refine wpAnyH_take (i := 8) (v := ?_) rfl (by kernel_rfl) (by kernel_rfl) (by kernel_rfl) (fun _ _ _ h => h) (Or.inl ⟨by rfl, ?_⟩) trivial ?_
          rotate_left
          · intro w hSw; first | (go_simp; done) | (go_simp; with_reducible rfl)
          try simp only [List.getElem_toArray, List.getElem_cons_zero, List.getElem_cons_succ, Act.put, List.setIfInBounds_toArray, List.set_cons_zero, List.set_cons_succ]
          refine wpAnyH_ready (rs := [10]) (by kernel_rfl) (by simp) ?_
          refine AllReadyH.cons rfl (fun K hK => ?_) AllReadyH.nil
          try simp only [List.getElem_toArray, List.getElem_cons_zero, List.getElem_cons_succ]
          go_simp
          have hne : t9 ≠ w1.heap.size := HB7.out.ne_ HT7.out (by decide)
          have e70 := cell_far c70 hne (.pointer (some ⟨g3, 0, none⟩))
          have e71 := cell_far c71 hne (.pointer (some ⟨g3, 0, none⟩))
          clear c70 c71 c7
          try (go_wp2_with fail)
          refine hK.out _ _ trivial (fun hHeld => ?_)
          clear hK K
          try simp only [List.getElem_toArray, List.getElem_cons_zero, List.getElem_cons_succ, Act.put, List.setIfInBounds_toArray, List.set_cons_zero, List.set_cons_succ]
          refine wpAnyH_ready (rs := [11]) (by kernel_rfl) (by simp) ?_
          refine AllReadyH.cons rfl (fun K hK => ?_) AllReadyH.nil
          try simp only [List.getElem_toArray, List.getElem_cons_zero, List.getElem_cons_succ]
          go_simp
          refine hK.out _ _ trivial (fun hHeld => ?_)
          clear hK K
          try simp only [List.getElem_toArray, List.getElem_cons_zero, List.getElem_cons_succ, Act.put, List.setIfInBounds_toArray, List.set_cons_zero, List.set_cons_succ]
          refine wpAnyH_take (i := 12) (v := ?_) rfl (by kernel_rfl) (by kernel_rfl) (by kernel_rfl) (fun _ _ _ h => h) (Or.inl ⟨by rfl, ?_⟩) trivial ?_
          rotate_left
          · intro w hSw; first | (go_simp; done) | (go_simp; with_reducible rfl)
          try simp only [List.getElem_toArray, List.getElem_cons_zero, List.getElem_cons_succ, Act.put, List.setIfInBounds_toArray, List.set_cons_zero, List.set_cons_succ]
          refine wpAnyH_done (by kernel_rfl) ?_ _
          (go_wp2_with fail; go_meet; exact ⟨g3, t9, rfl, rfl, rc_of HG.out HT7.out HB7.out HBB.out hl3 hbt9 hz1⟩)
      · skip
        try simp only [List.getElem_toArray, List.getElem_cons_zero, List.getElem_cons_succ]
        go_simp
        obtain ⟨t9, ht9, hbt9⟩ := size_ex HBB.out (Nat.le_refl _)
        have HB7 := Lib.hid (blk_new_of HBB.out 28 #[.int .i64 0, .slice none 0 0])
        try have HG := Lib.hid (HG.out.below ((Below.refl _ _).alloc (Nat.le_refl _) (.cells #[.int .i64 0, .slice none 0 0] 28)))
        have HT7 := Lib.hid (HT7.out.alloc (.cells #[.int .i64 0, .slice none 0 0] 28))
        have HBX1 := Lib.hid (HBX1.out.alloc HBX1.out.size (.cells #[.int .i64 0, .slice none 0 0] 28))
        have HBB := Lib.hid (HBB.out.alloc HBB.out.size (.cells #[.int .i64 0, .slice none 0 0] 28))
        rw [← ht9] at HB7 ⊢
        clear ht9 c7 f7
        have c7 : _ = some (Value.pointer (some ⟨g, 0, none⟩)) := (HT7.out.cell 0).trans rfl
        have f7 := HT7.out.frozen 0
        have c70 : _ = some (Value.int .i64 0) := (HB7.out.cell 0).trans rfl
        have c71 : _ = some (Value.slice none 0 0) := (HB7.out.cell 1).trans rfl
        have f70 := HB7.out.frozen 0
        have f71 := HB7.out.frozen 1
        try (go_wp2_with fail)
        refine hK.out _ _ trivial (fun hHeld => ?_)
        clear hK K
        try simp only [List.getElem_toArray, List.getElem_cons_zero, List.getElem_cons_succ, Act.put, List.setIfInBounds_toArray, List.set_cons_zero, List.set_cons_succ]
        refine wpAnyH_ready (rs := [2]) (by kernel_rfl) (by simp) ?_
        refine AllReadyH.cons rfl (fun K hK => ?_) AllReadyH.nil
        try simp only [List.getElem_toArray, List.getElem_cons_zero, List.getElem_cons_succ]
        go_simp
        refine (ref_new room _).mono ?_
        rintro e wn ⟨rfl, hbn⟩
        have HBB := Lib.hid (HBB.out.trans (hbn.mono HBB.out.size))
        have HBX1 := Lib.hid (HBX1.out.trans (hbn.mono HBX1.out.size))
        have HT7 := Lib.hid (HT7.out.below hbn)
        try have HB7 := Lib.hid (HB7.out.below hbn)
        clear hbn c7 f7
        have c7 : wn.cell? ⟨w1.heap.size, 0, none⟩ = some (.pointer (some ⟨g, 0, none⟩)) := (HT7.out.cell 0).trans rfl
        have f7 := HT7.out.frozen 0
        try have c70 : wn.cell? ⟨t9, 0, none⟩ = some (.int .i64 0) := (HB7.out.cell 0).trans rfl
        try have c71 : wn.cell? ⟨t9, 1, none⟩ = some (.slice none 0 0) := (HB7.out.cell 1).trans rfl
        try have f70 := HB7.out.frozen 0
        try have f71 := HB7.out.frozen 1
        try (go_wp2_with fail)
        refine hK.out _ _ trivial (fun hHeld => ?_)
        clear hK K
        try simp only [List.getElem_toArray, List.getElem_cons_zero, List.getElem_cons_succ, Act.put, List.setIfInBounds_toArray, List.set_cons_zero, List.set_cons_succ]
        refine wpAnyH_ready (rs := [4]) (by kernel_rfl) (by simp) ?_
        refine AllReadyH.cons rfl (fun K hK => ?_) AllReadyH.nil
        try simp only [List.getElem_toArray, List.getElem_cons_zero, List.getElem_cons_succ]
        go_simp
        refine (run_new wb w1 _ g room A cap ops HO.out HB.out HBX1.out HSb.out).mono ?_
        rintro e wn ⟨g3, v3, A4, c4, l3, rl3, rfl, hG, hl, hk, hf⟩
        have HT7 := Lib.hid (Own.blk (b := wb.heap.size) ⟨HO.out.net.below HBX1.out, HO.out.hg, HO.out.hv⟩ HT7.out hk (by decide) (by decide))
        try have HB7 := Lib.hid (Own.blk (b := wb.heap.size) ⟨HO.out.net.below HBX1.out, HO.out.hg, HO.out.hv⟩ HB7.out hk (by decide) (by decide))
        have HBB := Lib.hid (hk.out HBB.out (fun k h => HO.out.nb k h) HBB.out.size)
        have HG := Lib.hid hG
        have hl3 : l3.length ≤ ops.length := by simpa using hl
        clear hG hl hk hf c7 f7
        have c7 : wn.cell? ⟨w1.heap.size, 0, none⟩ = some (.pointer (some ⟨g, 0, none⟩)) := (HT7.out.cell 0).trans rfl
        have f7 := HT7.out.frozen 0
        try have c70 : wn.cell? ⟨t9, 0, none⟩ = some (.int .i64 0) := (HB7.out.cell 0).trans rfl
        try have c71 : wn.cell? ⟨t9, 1, none⟩ = some (.slice none 0 0) := (HB7.out.cell 1).trans rfl
        try have f70 := HB7.out.frozen 0
        try have f71 := HB7.out.frozen 1
        try (go_wp2_with fail)
        refine hK.out _ _ trivial (fun hHeld => ?_)
        clear hK K
        try simp only [List.getElem_toArray, List.getElem_cons_zero, List.getElem_cons_succ, Act.put, List.setIfInBounds_toArray, List.set_cons_zero, List.set_cons_succ]
        refine wpAnyH_take (i := 5) (v := ?_) rfl (by kernel_rfl) (by kernel_rfl) (by kernel_rfl) (fun _ _ _ h => h) (Or.inl ⟨by rfl, ?_⟩) trivial ?_
        rotate_left
        · intro w hSw; first | (go_simp; done) | (go_simp; with_reducible rfl)
        try simp only [List.getElem_toArray, List.getElem_cons_zero, List.getElem_cons_succ, Act.put, List.setIfInBounds_toArray, List.set_cons_zero, List.set_cons_succ]
        refine wpAnyH_take (i := 6) (v := ?_) rfl (by kernel_rfl) (by kernel_rfl) (by kernel_rfl) (fun _ _ _ h => h) (Or.inl ⟨by rfl, ?_⟩) trivial ?_
        rotate_left
        · intro w hSw; first | (go_simp; done) | (go_simp; with_reducible rfl)
        try simp only [List.getElem_toArray, List.getElem_cons_zero, List.getElem_cons_succ, Act.put, List.setIfInBounds_toArray, List.set_cons_zero, List.set_cons_succ]
        refine wpAnyH_take (i := 7) (v := ?_) rfl (by kernel_rfl) (by kernel_rfl) (by kernel_rfl) (fun _ _ _ h => h) (Or.inl ⟨by rfl, ?_⟩) trivial ?_
        rotate_left
        · intro w hSw; first | (go_simp; done) | (go_simp; with_reducible rfl)
        try simp only [List.getElem_toArray, List.getElem_cons_zero, List.getElem_cons_succ, Act.put, List.setIfInBounds_toArray, List.set_cons_zero, List.set_cons_succ]
        refine wpAnyH_take (i := 8) (v := ?_) rfl (by kernel_rfl) (by kernel_rfl) (by kernel_rfl) (fun _ _ _ h => h) (Or.inl ⟨by rfl, ?_⟩) trivial ?_
        rotate_left
        · intro w hSw; first | (go_simp; done) | (go_simp; with_reducible rfl)
        try simp only [List.getElem_toArray, List.getElem_cons_zero, List.getElem_cons_succ, Act.put, List.setIfInBounds_toArray, List.set_cons_zero, List.set_cons_succ]
        refine wpAnyH_ready (rs := [10]) (by kernel_rfl) (by simp) ?_
        refine AllReadyH.cons rfl (fun K hK => ?_) AllReadyH.nil
        try simp only [List.getElem_toArray, List.getElem_cons_zero, List.getElem_cons_succ]
        go_simp
        have hne : t9 ≠ w1.heap.size := HB7.out.ne_ HT7.out (by decide)
        have e70 := cell_far c70 hne (.pointer (some ⟨g3, 0, none⟩))
        have e71 := cell_far c71 hne (.pointer (some ⟨g3, 0, none⟩))
        clear c70 c71 c7
        try (go_wp2_with fail)
        refine hK.out _ _ trivial (fun hHeld => ?_)
        clear hK K
        try simp only [List.getElem_toArray, List.getElem_cons_zero, List.getElem_cons_succ, Act.put, List.setIfInBounds_toArray, List.set_cons_zero, List.set_cons_succ]
        refine wpAnyH_ready (rs := [11]) (by kernel_rfl) (by simp) ?_
        refine AllReadyH.cons rfl (fun K hK => ?_) AllReadyH.nil
        try simp only [List.getElem_toArray, List.getElem_cons_zero, List.getElem_cons_succ]
        go_simp
        refine hK.out _ _ trivial (fun hHeld => ?_)
        clear hK K
        try simp only [List.getElem_toArray, List.getElem_cons_zero, List.getElem_cons_succ, Act.put, List.setIfInBounds_toArray, List.set_cons_zero, List.set_cons_succ]
        refine wpAnyH_take (i := 12) (v := ?_) rfl (by kernel_rfl) (by kernel_rfl) (by kernel_rfl) (fun _ _ _ h => h) (Or.inl ⟨by rfl, ?_⟩) trivial ?_
        rotate_left
        · intro w hSw; first | (go_simp; done) | (go_simp; with_reducible rfl)
        try simp only [List.getElem_toArray, List.getElem_cons_zero, List.getElem_cons_succ, Act.put, List.setIfInBounds_toArray, List.set_cons_zero, List.set_cons_succ]
        refine wpAnyH_done (by kernel_rfl) ?_ _
        (go_wp2_with fail; go_meet; exact ⟨g3, t9, rfl, rfl, rc_of HG.out HT7.out HB7.out HBB.out hl3 hbt9 hz1⟩)
    · skip
      try simp only [List.getElem_toArray, List.getElem_cons_zero, List.getElem_cons_succ]
      go_simp
      refine (ref_new room _).mono ?_
      rintro e wn ⟨rfl, hbn⟩
      have HBB := Lib.hid (HBB.out.trans (hbn.mono HBB.out.size))
      have HBX1 := Lib.hid (HBX1.out.trans (hbn.mono HBX1.out.size))
      have HT7 := Lib.hid (HT7.out.below hbn)
      try have HB7 := Lib.hid (HB7.out.below hbn)
      clear hbn c7 f7
      have c7 : wn.cell? ⟨w1.heap.size, 0, none⟩ = some (.pointer (some ⟨g, 0, none⟩)) := (HT7.out.cell 0).trans rfl
      have f7 := HT7.out.frozen 0
      try have c70 : wn.cell? ⟨t9, 0, none⟩ = some (.int .i64 0) := (HB7.out.cell 0).trans rfl
      try have c71 : wn.cell? ⟨t9, 1, none⟩ = some (.slice none 0 0) := (HB7.out.cell 1).trans rfl
      try have f70 := HB7.out.frozen 0
      try have f71 := HB7.out.frozen 1
      try (go_wp2_with fail)
      refine hK.out _ _ trivial (fun hHeld => ?_)
      clear hK K
      try simp only [List.getElem_toArray, List.getElem_cons_zero, List.getElem_cons_succ, Act.put, List.setIfInBounds_toArray, List.set_cons_zero, List.set_cons_succ]
      refine wpAnyH_ready (rs := [0, 9]) (by kernel_rfl) (by simp) ?_
      refine AllReadyH.cons rfl (fun K hK => ?_) (AllReadyH.cons rfl (fun K hK => ?_) AllReadyH.nil)
      · skip
        try simp only [List.getElem_toArray, List.getElem_cons_zero, List.getElem_cons_succ]
        go_simp
        refine hK.out _ _ trivial (fun hHeld => ?_)
        clear hK K
        try simp only [List.getElem_toArray, List.getElem_cons_zero, List.getElem_cons_succ, Act.put, List.setIfInBounds_toArray, List.set_cons_zero, List.set_cons_succ]
        refine wpAnyH_ready (rs := [4, 9]) (by kernel_rfl) (by simp) ?_
        refine AllReadyH.cons rfl (fun K hK => ?_) (AllReadyH.cons rfl (fun K hK => ?_) AllReadyH.nil)
        · skip
          try simp only [List.getElem_toArray, List.getElem_cons_zero, List.getElem_cons_succ]
          go_simp
          refine (run_new wb w1 _ g room A cap ops HO.out HB.out HBX1.out HSb.out).mono ?_
          rintro e wn ⟨g3, v3, A4, c4, l3, rl3, rfl, hG, hl, hk, hf⟩
          have HT7 := Lib.hid (Own.blk (b := wb.heap.size) ⟨HO.out.net.below HBX1.out, HO.out.hg, HO.out.hv⟩ HT7.out hk (by decide) (by decide))
          try have HB7 := Lib.hid (Own.blk (b := wb.heap.size) ⟨HO.out.net.below HBX1.out, HO.out.hg, HO.out.hv⟩ HB7.out hk (by decide) (by decide))
          have HBB := Lib.hid (hk.out HBB.out (fun k h => HO.out.nb k h) HBB.out.size)
          have HG := Lib.hid hG
          have hl3 : l3.length ≤ ops.length := by simpa using hl
          clear hG hl hk hf c7 f7
          have c7 : wn.cell? ⟨w1.heap.size, 0, none⟩ = some (.pointer (some ⟨g, 0, none⟩)) := (HT7.out.cell 0).trans rfl
          have f7 := HT7.out.frozen 0
          try have c70 : wn.cell? ⟨t9, 0, none⟩ = some (.int .i64 0) := (HB7.out.cell 0).trans rfl
          try have c71 : wn.cell? ⟨t9, 1, none⟩ = some (.slice none 0 0) := (HB7.out.cell 1).trans rfl
          try have f70 := HB7.out.frozen 0
          try have f71 := HB7.out.frozen 1
          try (go_wp2_with fail)
          refine hK.out _ _ trivial (fun hHeld => ?_)
          clear hK K
          try simp only [List.getElem_toArray, List.getElem_cons_zero, List.getElem_cons_succ, Act.put, List.setIfInBounds_toArray, List.set_cons_zero, List.set_cons_succ]
          refine wpAnyH_take (i := 5) (v := ?_) rfl (by kernel_rfl) (by kernel_rfl) (by kernel_rfl) (fun _ _ _ h => h) (Or.inl ⟨by rfl, ?_⟩) trivial ?_
          rotate_left
          · intro w hSw; first | (go_simp; done) | (go_simp; with_reducible rfl)
          try simp only [List.getElem_toArray, List.getElem_cons_zero, List.getElem_cons_succ, Act.put, List.setIfInBounds_toArray, List.set_cons_zero, List.set_cons_succ]
          refine wpAnyH_take (i := 6) (v := ?_) rfl (by kernel_rfl) (by kernel_rfl) (by kernel_rfl) (fun _ _ _ h => h) (Or.inl ⟨by rfl, ?_⟩) trivial ?_
          rotate_left
          · intro w hSw; first | (go_simp; done) | (go_simp; with_reducible rfl)
          try simp only [List.getElem_toArray, List.getElem_cons_zero, List.getElem_cons_succ, Act.put, List.setIfInBounds_toArray, List.set_cons_zero, List.set_cons_succ]
          refine wpAnyH_take (i := 7) (v := ?_) rfl (by kernel_rfl) (by kernel_rfl) (by kernel_rfl) (fun _ _ _ h => h) (Or.inl ⟨by rfl, ?_⟩) trivial ?_
          rotate_left
          · intro w hSw; first | (go_simp; done) | (go_simp; with_reducible rfl)
          try simp only [List.getElem_toArray, List.getElem_cons_zero, List.getElem_cons_succ, Act.put, List.setIfInBounds_toArray, List.set_cons_zero, List.set_cons_succ]
          refine wpAnyH_take (i := 8) (v := ?_) rfl (by kernel_rfl) (by kernel_rfl) (by kernel_rfl) (fun _ _ _ h => h) (Or.inl ⟨by rfl, ?_⟩) trivial ?_
          rotate_left
          · intro w hSw; first | (go_simp; done) | (go_simp; with_reducible rfl)
          try simp only [List.getElem_toArray, List.getElem_cons_zero, List.getElem_cons_succ, Act.put, List.setIfInBounds_toArray, List.set_cons_zero, List.set_cons_succ]
          refine wpAnyH_ready (rs := [9]) (by kernel_rfl) (by simp) ?_
          refine AllReadyH.cons rfl (fun K hK => ?_) AllReadyH.nil
          try simp only [List.getElem_toArray, List.getElem_cons_zero, List.getElem_cons_succ]
          go_simp
          obtain ⟨t9, ht9, hbt9⟩ := size_ex HBB.out (Nat.le_refl _)
          have HB7 := Lib.hid (blk_new_of HBB.out 28 #[.int .i64 0, .slice none 0 0])
          try have HG := Lib.hid (HG.out.below ((Below.refl _ _).alloc (Nat.le_refl _) (.cells #[.int .i64 0, .slice none 0 0] 28)))
          have HT7 := Lib.hid (HT7.out.alloc (.cells #[.int .i64 0, .slice none 0 0] 28))
          have HBX1 := Lib.hid (HBX1.out.alloc HBX1.out.size (.cells #[.int .i64 0, .slice none 0 0] 28))
          have HBB := Lib.hid (HBB.out.alloc HBB.out.size (.cells #[.int .i64 0, .slice none 0 0] 28))
          rw [← ht9] at HB7 ⊢
          clear ht9 c7 f7
          have c7 : _ = some (Value.pointer (some ⟨g, 0, none⟩)) := (HT7.out.cell 0).trans rfl
          have f7 := HT7.out.frozen 0
          have c70 : _ = some (Value.int .i64 0) := (HB7.out.cell 0).trans rfl
          have c71 : _ = some (Value.slice none 0 0) := (HB7.out.cell 1).trans rfl
          have f70 := HB7.out.frozen 0
          have f71 := HB7.out.frozen 1
          try (go_wp2_with fail)
          refine hK.out _ _ trivial (fun hHeld => ?_)
          clear hK K
          try simp only [List.getElem_toArray, List.getElem_cons_zero, List.getElem_cons_succ, Act.put, List.setIfInBounds_toArray, List.set_cons_zero, List.set_cons_succ]
          refine wpAnyH_ready (rs := [10]) (by kernel_rfl) (by simp) ?_
          refine AllReadyH.cons rfl (fun K hK => ?_) AllReadyH.nil
          try simp only [List.getElem_toArray, List.getElem_cons_zero, List.getElem_cons_succ]
          go_simp
          have hne : t9 ≠ w1.heap.size := HB7.out.ne_ HT7.out (by decide)
          have e70 := cell_far c70 hne (.pointer (some ⟨g3, 0, none⟩))
          have e71 := cell_far c71 hne (.pointer (some ⟨g3, 0, none⟩))
          clear c70 c71 c7
          try (go_wp2_with fail)
          refine hK.out _ _ trivial (fun hHeld => ?_)
          clear hK K
          try simp only [List.getElem_toArray, List.getElem_cons_zero, List.getElem_cons_succ, Act.put, List.setIfInBounds_toArray, List.set_cons_zero, List.set_cons_succ]
          refine wpAnyH_ready (rs := [11]) (by kernel_rfl) (by simp) ?_
          refine AllReadyH.cons rfl (fun K hK => ?_) AllReadyH.nil
          try simp only [List.getElem_toArray, List.getElem_cons_zero, List.getElem_cons_succ]
          go_simp
          refine hK.out _ _ trivial (fun hHeld => ?_)
          clear hK K
          try simp only [List.getElem_toArray, List.getElem_cons_zero, List.getElem_cons_succ, Act.put, List.setIfInBounds_toArray, List.set_cons_zero, List.set_cons_succ]
          refine wpAnyH_take (i := 12) (v := ?_) rfl (by kernel_rfl) (by kernel_rfl) (by kernel_rfl) (fun _ _ _ h => h) (Or.inl ⟨by rfl, ?_⟩) trivial ?_
          rotate_left
          · intro w hSw; first | (go_simp; done) | (go_simp; with_reducible rfl)
          try simp only [List.getElem_toArray, List.getElem_cons_zero, List.getElem_cons_succ, Act.put, List.setIfInBounds_toArray, List.set_cons_zero, List.set_cons_succ]
          refine wpAnyH_done (by kernel_rfl) ?_ _
          (go_wp2_with fail; go_meet; exact ⟨g3, t9, rfl, rfl, rc_of HG.out HT7.out HB7.out HBB.out hl3 hbt9 hz1⟩)
        · skip
          try simp only [List.getElem_toArray, List.getElem_cons_zero, List.getElem_cons_succ]
          go_simp
          obtain ⟨t9, ht9, hbt9⟩ := size_ex HBB.out (Nat.le_refl _)
          have HB7 := Lib.hid (blk_new_of HBB.out 28 #[.int .i64 0, .slice none 0 0])
          try have HG := Lib.hid (HG.out.below ((Below.refl _ _).alloc (Nat.le_refl _) (.cells #[.int .i64 0, .slice none 0 0] 28)))
          have HT7 := Lib.hid (HT7.out.alloc (.cells #[.int .i64 0, .slice none 0 0] 28))
          have HBX1 := Lib.hid (HBX1.out.alloc HBX1.out.size (.cells #[.int .i64 0, .slice none 0 0] 28))
          have HBB := Lib.hid (HBB.out.alloc HBB.out.size (.cells #[.int .i64 0, .slice none 0 0] 28))
          rw [← ht9] at HB7 ⊢
          clear ht9 c7 f7
          have c7 : _ = some (Value.pointer (some ⟨g, 0, none⟩)) := (HT7.out.cell 0).trans rfl
          have f7 := HT7.out.frozen 0
          have c70 : _ = some (Value.int .i64 0) := (HB7.out.cell 0).trans rfl
          have c71 : _ = some (Value.slice none 0 0) := (HB7.out.cell 1).trans rfl
          have f70 := HB7.out.frozen 0
          have f71 := HB7.out.frozen 1
          try (go_wp2_with fail)
          refine hK.out _ _ trivial (fun hHeld => ?_)
          clear hK K
          try simp only [List.getElem_toArray, List.getElem_cons_zero, List.getElem_cons_succ, Act.put, List.setIfInBounds_toArray, List.set_cons_zero, List.set_cons_succ]
          refine wpAnyH_ready (rs := [4]) (by kernel_rfl) (by simp) ?_
          refine AllReadyH.cons rfl (fun K hK => ?_) AllReadyH.nil
          try simp only [List.getElem_toArray, List.getElem_cons_zero, List.getElem_cons_succ]
          go_simp
          refine (run_new wb w1 _ g room A cap ops HO.out HB.out HBX1.out HSb.out).mono ?_
          rintro e wn ⟨g3, v3, A4, c4, l3, rl3, rfl, hG, hl, hk, hf⟩
          have HT7 := Lib.hid (Own.blk (b := wb.heap.size) ⟨HO.out.net.below HBX1.out, HO.out.hg, HO.out.hv⟩ HT7.out hk (by decide) (by decide))
          try have HB7 := Lib.hid (Own.blk (b := wb.heap.size) ⟨HO.out.net.below HBX1.out, HO.out.hg, HO.out.hv⟩ HB7.out hk (by decide) (by decide))
          have HBB := Lib.hid (hk.out HBB.out (fun k h => HO.out.nb k h) HBB.out.size)
          have HG := Lib.hid hG
          have hl3 : l3.length ≤ ops.length := by simpa using hl
          clear hG hl hk hf c7 f7
          have c7 : wn.cell? ⟨w1.heap.size, 0, none⟩ = some (.pointer (some ⟨g, 0, none⟩)) := (HT7.out.cell 0).trans rfl
          have f7 := HT7.out.frozen 0
          try have c70 : wn.cell? ⟨t9, 0, none⟩ = some (.int .i64 0) := (HB7.out.cell 0).trans rfl
          try have c71 : wn.cell? ⟨t9, 1, none⟩ = some (.slice none 0 0) := (HB7.out.cell 1).trans rfl
          try have f70 := HB7.out.frozen 0
          try have f71 := HB7.out.frozen 1
          try (go_wp2_with fail)
          refine hK.out _ _ trivial (fun hHeld => ?_)
          clear hK K
          try simp only [List.getElem_toArray, List.getElem_cons_zero, List.getElem_cons_succ, Act.put, List.setIfInBounds_toArray, List.set_cons_zero, List.set_cons_succ]
          refine wpAnyH_take (i := 5) (v := ?_) rfl (by kernel_rfl) (by kernel_rfl) (by kernel_rfl) (fun _ _ _ h => h) (Or.inl ⟨by rfl, ?_⟩) trivial ?_
          rotate_left
          · intro w hSw; first | (go_simp; done) | (go_simp; with_reducible rfl)
          try simp only [List.getElem_toArray, List.getElem_cons_zero, List.getElem_cons_succ, Act.put, List.setIfInBounds_toArray, List.set_cons_zero, List.set_cons_succ]
          refine wpAnyH_take (i := 6) (v := ?_) rfl (by kernel_rfl) (by kernel_rfl) (by kernel_rfl) (fun _ _ _ h => h) (Or.inl ⟨by rfl, ?_⟩) trivial ?_
          rotate_left
          · intro w hSw; first | (go_simp; done) | (go_simp; with_reducible rfl)
          try simp only [List.getElem_toArray, List.getElem_cons_zero, List.getElem_cons_succ, Act.put, List.setIfInBounds_toArray, List.set_cons_zero, List.set_cons_succ]
          refine wpAnyH_take (i := 7) (v := ?_) rfl (by kernel_rfl) (by kernel_rfl) (by kernel_rfl) (fun _ _ _ h => h) (Or.inl ⟨by rfl, ?_⟩) trivial ?_
          rotate_left
          · intro w hSw; first | (go_simp; done) | (go_simp; with_reducible rfl)
          try simp only [List.getElem_toArray, List.getElem_cons_zero, List.getElem_cons_succ, Act.put, List.setIfInBounds_toArray, List.set_cons_zero, List.set_cons_succ]
          refine wpAnyH_take (i := 8) (v := ?_) rfl (by kernel_rfl) (by kernel_rfl) (by kernel_rfl) (fun _ _ _ h => h) (Or.inl ⟨by rfl, ?_⟩) trivial ?_
          rotate_left
          · intro w hSw; first | (go_simp; done) | (go_simp; with_reducible rfl)
          try simp only [List.getElem_toArray, List.getElem_cons_zero, List.getElem_cons_succ, Act.put, List.setIfInBounds_toArray, List.set_cons_zero, List.set_cons_succ]
          refine wpAnyH_ready (rs := [10]) (by kernel_rfl) (by simp) ?_
          refine AllReadyH.cons rfl (fun K hK => ?_) AllReadyH.nil
          try simp only [List.getElem_toArray, List.getElem_cons_zero, List.getElem_cons_succ]
          go_simp
          have hne : t9 ≠ w1.heap.size := HB7.out.ne_ HT7.out (by decide)
          have e70 := cell_far c70 hne (.pointer (some ⟨g3, 0, none⟩))
          have e71 := cell_far c71 hne (.pointer (some ⟨g3, 0, none⟩))
          clear c70 c71 c7
          try (go_wp2_with fail)
          refine hK.out _ _ trivial (fun hHeld => ?_)
          clear hK K
          try simp only [List.getElem_toArray, List.getElem_cons_zero, List.getElem_cons_succ, Act.put, List.setIfInBounds_toArray, List.set_cons_zero, List.set_cons_succ]
          refine wpAnyH_ready (rs := [11]) (by kernel_rfl) (by simp) ?_
          refine AllReadyH.cons rfl (fun K hK => ?_) AllReadyH.nil
          try simp only [List.getElem_toArray, List.getElem_cons_zero, List.getElem_cons_succ]
          go_simp
          refine hK.out _ _ trivial (fun hHeld => ?_)
          clear hK K
          try simp only [List.getElem_toArray, List.getElem_cons_zero, List.getElem_cons_succ, Act.put, List.setIfInBounds_toArray, List.set_cons_zero, List.set_cons_succ]
          refine wpAnyH_take (i := 12) (v := ?_) rfl (by kernel_rfl) (by kernel_rfl) (by kernel_rfl) (fun _ _ _ h => h) (Or.inl ⟨by rfl, ?_⟩) trivial ?_
          rotate_left
          · intro w hSw; first | (go_simp; done) | (go_simp; with_reducible rfl)
          try simp only [List.getElem_toArray, List.getElem_cons_zero, List.getElem_cons_succ, Act.put, List.setIfInBounds_toArray, List.set_cons_zero, List.set_cons_succ]
          refine wpAnyH_done (by kernel_rfl) ?_ _
          (go_wp2_with fail; go_meet; exact ⟨g3, t9, rfl, rfl, rc_of HG.out HT7.out HB7.out HBB.out hl3 hbt9 hz1⟩)
      · skip
        try simp only [List.getElem_toArray, List.getElem_cons_zero, List.getElem_cons_succ]
        go_simp
        obtain ⟨t9, ht9, hbt9⟩ := size_ex HBB.out (Nat.le_refl _)
        have HB7 := Lib.hid (blk_new_of HBB.out 28 #[.int .i64 0, .slice none 0 0])
        try have HG := Lib.hid (HG.out.below ((Below.refl _ _).alloc (Nat.le_refl _) (.cells #[.int .i64 0, .slice none 0 0] 28)))
        have HT7 := Lib.hid (HT7.out.alloc (.cells #[.int .i64 0, .slice none 0 0] 28))
        have HBX1 := Lib.hid (HBX1.out.alloc HBX1.out.size (.cells #[.int .i64 0, .slice none 0 0] 28))
        have HBB := Lib.hid (HBB.out.alloc HBB.out.size (.cells #[.int .i64 0, .slice none 0 0] 28))
        rw [← ht9] at HB7 ⊢
        clear ht9 c7 f7
        have c7 : _ = some (Value.pointer (some ⟨g, 0, none⟩)) := (HT7.out.cell 0).trans rfl
        have f7 := HT7.out.frozen 0
        have c70 : _ = some (Value.int .i64 0) := (HB7.out.cell 0).trans rfl
        have c71 : _ = some (Value.slice none 0 0) := (HB7.out.cell 1).trans rfl
        have f70 := HB7.out.frozen 0
        have f71 := HB7.out.frozen 1
        try (go_wp2_with fail)
        refine hK.out _ _ trivial (fun hHeld => ?_)
        clear hK K
        try simp only [List.getElem_toArray, List.getElem_cons_zero, List.getElem_cons_succ, Act.put, List.setIfInBounds_toArray, List.set_cons_zero, List.set_cons_succ]
        refine wpAnyH_ready (rs := [0]) (by kernel_rfl) (by simp) ?_
        refine AllReadyH.cons rfl (fun K hK => ?_) AllReadyH.nil
        try simp only [List.getElem_toArray, List.getElem_cons_zero, List.getElem_cons_succ]
        go_simp
        refine hK.out _ _ trivial (fun hHeld => ?_)
        clear hK K
        try simp only [List.getElem_toArray, List.getElem_cons_zero, List.getElem_cons_succ, Act.put, List.setIfInBounds_toArray, List.set_cons_zero, List.set_cons_succ]
        refine wpAnyH_ready (rs := [4]) (by kernel_rfl) (by simp) ?_
        refine AllReadyH.cons rfl (fun K hK => ?_) AllReadyH.nil
        try simp only [List.getElem_toArray, List.getElem_cons_zero, List.getElem_cons_succ]
        go_simp
        refine (run_new wb w1 _ g room A cap ops HO.out HB.out HBX1.out HSb.out).mono ?_
        rintro e wn ⟨g3, v3, A4, c4, l3, rl3, rfl, hG, hl, hk, hf⟩
        have HT7 := Lib.hid (Own.blk (b := wb.heap.size) ⟨HO.out.net.below HBX1.out, HO.out.hg, HO.out.hv⟩ HT7.out hk (by decide) (by decide))
        try have HB7 := Lib.hid (Own.blk (b := wb.heap.size) ⟨HO.out.net.below HBX1.out, HO.out.hg, HO.out.hv⟩ HB7.out hk (by decide) (by decide))
        have HBB := Lib.hid (hk.out HBB.out (fun k h => HO.out.nb k h) HBB.out.size)
        have HG := Lib.hid hG
        have hl3 : l3.length ≤ ops.length := by simpa using hl
        clear hG hl hk hf c7 f7
        have c7 : wn.cell? ⟨w1.heap.size, 0, none⟩ = some (.pointer (some ⟨g, 0, none⟩)) := (HT7.out.cell 0).trans rfl
        have f7 := HT7.out.frozen 0
        try have c70 : wn.cell? ⟨t9, 0, none⟩ = some (.int .i64 0) := (HB7.out.cell 0).trans rfl
        try have c71 : wn.cell? ⟨t9, 1, none⟩ = some (.slice none 0 0) := (HB7.out.cell 1).trans rfl
        try have f70 := HB7.out.frozen 0
        try have f71 := HB7.out.frozen 1
        try (go_wp2_with fail)
        refine hK.out _ _ trivial (fun hHeld => ?_)
        clear hK K
        try simp only [List.getElem_toArray, List.getElem_cons_zero, List.getElem_cons_succ, Act.put, List.setIfInBounds_toArray, List.set_cons_zero, List.set_cons_succ]
        refine wpAnyH_take (i := 5) (v := ?_) rfl (by kernel_rfl) (by kernel_rfl) (by kernel_rfl) (fun _ _ _ h => h) (Or.inl ⟨by rfl, ?_⟩) trivial ?_
        rotate_left
        · intro w hSw; first | (go_simp; done) | (go_simp; with_reducible rfl)
        try simp only [List.getElem_toArray, List.getElem_cons_zero, List.getElem_cons_succ, Act.put, List.setIfInBounds_toArray, List.set_cons_zero, List.set_cons_succ]
        refine wpAnyH_take (i := 6) (v := ?_) rfl (by kernel_rfl) (by kernel_rfl) (by kernel_rfl) (fun _ _ _ h => h) (Or.inl ⟨by rfl, ?_⟩) trivial ?_
        rotate_left
        · intro w hSw; first | (go_simp; done) | (go_simp; with_reducible rfl)
        try simp only [List.getElem_toArray, List.getElem_cons_zero, List.getElem_cons_succ, Act.put, List.setIfInBounds_toArray, List.set_cons_zero, List.set_cons_succ]
        refine wpAnyH_take (i := 7) (v := ?_) rfl (by kernel_rfl) (by kernel_rfl) (by kernel_rfl) (fun _ _ _ h => h) (Or.inl ⟨by rfl, ?_⟩) trivial ?_
        rotate_left
        · intro w hSw; first | (go_simp; done) | (go_simp; with_reducible rfl)
        try simp only [List.getElem_toArray, List.getElem_cons_zero, List.getElem_cons_succ, Act.put, List.setIfInBounds_toArray, List.set_cons_zero, List.set_cons_succ]
        refine wpAnyH_take (i := 8) (v := ?_) rfl (by kernel_rfl) (by kernel_rfl) (by kernel_rfl) (fun _ _ _ h => h) (Or.inl ⟨by rfl, ?_⟩) trivial ?_
        rotate_left
        · intro w hSw; first | (go_simp; done) | (go_simp; with_reducible rfl)
        try simp only [List.getElem_toArray, List.getElem_cons_zero, List.getElem_cons_succ, Act.put, List.setIfInBounds_toArray, List.set_cons_zero, List.set_cons_succ]
        refine wpAnyH_ready (rs := [10]) (by kernel_rfl) (by simp) ?_
        refine AllReadyH.cons rfl (fun K hK => ?_) AllReadyH.nil
        try simp only [List.getElem_toArray, List.getElem_cons_zero, List.getElem_cons_succ]
        go_simp
        have hne : t9 ≠ w1.heap.size := HB7.out.ne_ HT7.out (by decide)
        have e70 := cell_far c70 hne (.pointer (some ⟨g3, 0, none⟩))
        have e71 := cell_far c71 hne (.pointer (some ⟨g3, 0, none⟩))
        clear c70 c71 c7
        try (go_wp2_with fail)
        refine hK.out _ _ trivial (fun hHeld => ?_)
        clear hK K
        try simp only [List.getElem_toArray, List.getElem_cons_zero, List.getElem_cons_succ, Act.put, List.setIfInBounds_toArray, List.set_cons_zero, List.set_cons_succ]
        refine wpAnyH_ready (rs := [11]) (by kernel_rfl) (by simp) ?_
        refine AllReadyH.cons rfl (fun K hK => ?_) AllReadyH.nil
        try simp only [List.getElem_toArray, List.getElem_cons_zero, List.getElem_cons_succ]
        go_simp
        refine hK.out _ _ trivial (fun hHeld => ?_)
        clear hK K
        try simp only [List.getElem_toArray, List.getElem_cons_zero, List.getElem_cons_succ, Act.put, List.setIfInBounds_toArray, List.set_cons_zero, List.set_cons_succ]
        refine wpAnyH_take (i := 12) (v := ?_) rfl (by kernel_rfl) (by kernel_rfl) (by kernel_rfl) (fun _ _ _ h => h) (Or.inl ⟨by rfl, ?_⟩) trivial ?_
        rotate_left
        · intro w hSw; first | (go_simp; done) | (go_simp; with_reducible rfl)
        try simp only [List.getElem_toArray, List.getElem_cons_zero, List.getElem_cons_succ, Act.put, List.setIfInBounds_toArray, List.set_cons_zero, List.set_cons_succ]
        refine wpAnyH_done (by kernel_rfl) ?_ _
        (go_wp2_with fail; go_meet; exact ⟨g3, t9, rfl, rfl, rc_of HG.out HT7.out HB7.out HBB.out hl3 hbt9 hz1⟩)
    · skip
      try simp only [List.getElem_toArray, List.getElem_cons_zero, List.getElem_cons_succ]
      go_simp
      obtain ⟨t9, ht9, hbt9⟩ := size_ex HBB.out (Nat.le_refl _)
      have HB7 := Lib.hid (blk_new_of HBB.out 28 #[.int .i64 0, .slice none 0 0])
      try have HG := Lib.hid (HG.out.below ((Below.refl _ _).alloc (Nat.le_refl _) (.cells #[.int .i64 0, .slice none 0 0] 28)))
      have HT7 := Lib.hid (HT7.out.alloc (.cells #[.int .i64 0, .slice none 0 0] 28))
      have HBX1 := Lib.hid (HBX1.out.alloc HBX1.out.size (.cells #[.int .i64 0, .slice none 0 0] 28))
      have HBB := Lib.hid (HBB.out.alloc HBB.out.size (.cells #[.int .i64 0, .slice none 0 0] 28))
      rw [← ht9] at HB7 ⊢
      clear ht9 c7 f7
      have c7 : _ = some (Value.pointer (some ⟨g, 0, none⟩)) := (HT7.out.cell 0).trans rfl
      have f7 := HT7.out.frozen 0
      have c70 : _ = some (Value.int .i64 0) := (HB7.out.cell 0).trans rfl
      have c71 : _ = some (Value.slice none 0 0) := (HB7.out.cell 1).trans rfl
      have f70 := HB7.out.frozen 0
      have f71 := HB7.out.frozen 1
      try (go_wp2_with fail)
      refine hK.out _ _ trivial (fun hHeld => ?_)
      clear hK K
      try simp only [List.getElem_toArray, List.getElem_cons_zero, List.getElem_cons_succ, Act.put, List.setIfInBounds_toArray, List.set_cons_zero, List.set_cons_succ]
      refine wpAnyH_ready (rs := [0, 2]) (by kernel_rfl) (by simp) ?_
      refine AllReadyH.cons rfl (fun K hK => ?_) (AllReadyH.cons rfl (fun K hK => ?_) AllReadyH.nil)
      · skip
        try simp only [List.getElem_toArray, List.getElem_cons_zero, List.getElem_cons_succ]
        go_simp
        refine hK.out _ _ trivial (fun hHeld => ?_)
        clear hK K
        try simp only [List.getElem_toArray, List.getElem_cons_zero, List.getElem_cons_succ, Act.put, List.setIfInBounds_toArray, List.set_cons_zero, List.set_cons_succ]
        refine wpAnyH_ready (rs := [2]) (by kernel_rfl) (by simp) ?_
        refine AllReadyH.cons rfl (fun K hK => ?_) AllReadyH.nil
        try simp only [List.getElem_toArray, List.getElem_cons_zero, List.getElem_cons_succ]
        go_simp
        refine (ref_new room _).mono ?_
        rintro e wn ⟨rfl, hbn⟩
        have HBB := Lib.hid (HBB.out.trans (hbn.mono HBB.out.size))
        have HBX1 := Lib.hid (HBX1.out.trans (hbn.mono HBX1.out.size))
        have HT7 := Lib.hid (HT7.out.below hbn)
        try have HB7 := Lib.hid (HB7.out.below hbn)
        clear hbn c7 f7
        have c7 : wn.cell? ⟨w1.heap.size, 0, none⟩ = some (.pointer (some ⟨g, 0, none⟩)) := (HT7.out.cell 0).trans rfl
        have f7 := HT7.out.frozen 0
        try have c70 : wn.cell? ⟨t9, 0, none⟩ = some (.int .i64 0) := (HB7.out.cell 0).trans rfl
        try have c71 : wn.cell? ⟨t9, 1, none⟩ = some (.slice none 0 0) := (HB7.out.cell 1).trans rfl
        try have f70 := HB7.out.frozen 0
        try have f71 := HB7.out.frozen 1
        try (go_wp2_with fail)
        refine hK.out _ _ trivial (fun hHeld => ?_)
        clear hK K
        try simp only [List.getElem_toArray, List.getElem_cons_zero, List.getElem_cons_succ, Act.put, List.setIfInBounds_toArray, List.set_cons_zero, List.set_cons_succ]
        refine wpAnyH_ready (rs := [4]) (by kernel_rfl) (by simp) ?_
        refine AllReadyH.cons rfl (fun K hK => ?_) AllReadyH.nil
        try simp only [List.getElem_toArray, List.getElem_cons_zero, List.getElem_cons_succ]
        go_simp
        refine (run_new wb w1 _ g room A cap ops HO.out HB.out HBX1.out HSb.out).mono ?_
        rintro e wn ⟨g3, v3, A4, c4, l3, rl3, rfl, hG, hl, hk, hf⟩
        have HT7 := Lib.hid (Own.blk (b := wb.heap.size) ⟨HO.out.net.below HBX1.out, HO.out.hg, HO.out.hv⟩ HT7.out hk (by decide) (by decide))
        try have HB7 := Lib.hid (Own.blk (b := wb.heap.size) ⟨HO.out.net.below HBX1.out, HO.out.hg, HO.out.hv⟩ HB7.out hk (by decide) (by decide))
        have HBB := Lib.hid (hk.out HBB.out (fun k h => HO.out.nb k h) HBB.out.size)
        have HG := Lib.hid hG
        have hl3 : l3.length ≤ ops.length := by simpa using hl
        clear hG hl hk hf c7 f7
        have c7 : wn.cell? ⟨w1.heap.size, 0, none⟩ = some (.pointer (some ⟨g, 0, none⟩)) := (HT7.out.cell 0).trans rfl
        have f7 := HT7.out.frozen 0
        try have c70 : wn.cell? ⟨t9, 0, none⟩ = some (.int .i64 0) := (HB7.out.cell 0).trans rfl
        try have c71 : wn.cell? ⟨t9, 1, none⟩ = some (.slice none 0 0) := (HB7.out.cell 1).trans rfl
        try have f70 := HB7.out.frozen 0
        try have f71 := HB7.out.frozen 1
        try (go_wp2_with fail)
        refine hK.out _ _ trivial (fun hHeld => ?_)
        clear hK K
        try simp only [List.getElem_toArray, List.getElem_cons_zero, List.getElem_cons_succ, Act.put, List.setIfInBounds_toArray, List.set_cons_zero, List.set_cons_succ]
        refine wpAnyH_take (i := 5) (v := ?_) rfl (by kernel_rfl) (by kernel_rfl) (by kernel_rfl) (fun _ _ _ h => h) (Or.inl ⟨by rfl, ?_⟩) trivial ?_
        rotate_left
        · intro w hSw; first | (go_simp; done) | (go_simp; with_reducible rfl)
        try simp only [List.getElem_toArray, List.getElem_cons_zero, List.getElem_cons_succ, Act.put, List.setIfInBounds_toArray, List.set_cons_zero, List.set_cons_succ]
        refine wpAnyH_take (i := 6) (v := ?_) rfl (by kernel_rfl) (by kernel_rfl) (by kernel_rfl) (fun _ _ _ h => h) (Or.inl ⟨by rfl, ?_⟩) trivial ?_
        rotate_left
        · intro w hSw; first | (go_simp; done) | (go_simp; with_reducible rfl)
        try simp only [List.getElem_toArray, List.getElem_cons_zero, List.getElem_cons_succ, Act.put, List.setIfInBounds_toArray, List.set_cons_zero, List.set_cons_succ]
        refine wpAnyH_take (i := 7) (v := ?_) rfl (by kernel_rfl) (by kernel_rfl) (by kernel_rfl) (fun _ _ _ h => h) (Or.inl ⟨by rfl, ?_⟩) trivial ?_
        rotate_left
        · intro w hSw; first | (go_simp; done) | (go_simp; with_reducible rfl)
        try simp only [List.getElem_toArray, List.getElem_cons_zero, List.getElem_cons_succ, Act.put, List.setIfInBounds_toArray, List.set_cons_zero, List.set_cons_succ]
        refine wpAnyH_take (i := 8) (v := ?_) rfl (by kernel_rfl) (by kernel_rfl) (by kernel_rfl) (fun _ _ _ h => h) (Or.inl ⟨by rfl, ?_⟩) trivial ?_
        rotate_left
        · intro w hSw; first | (go_simp; done) | (go_simp; with_reducible rfl)
        try simp only [List.getElem_toArray, List.getElem_cons_zero, List.getElem_cons_succ, Act.put, List.setIfInBounds_toArray, List.set_cons_zero, List.set_cons_succ]
        refine wpAnyH_ready (rs := [10]) (by kernel_rfl) (by simp) ?_
        refine AllReadyH.cons rfl (fun K hK => ?_) AllReadyH.nil
        try simp only [List.getElem_toArray, List.getElem_cons_zero, List.getElem_cons_succ]
        go_simp
        have hne : t9 ≠ w1.heap.size := HB7.out.ne_ HT7.out (by decide)
        have e70 := cell_far c70 hne (.pointer (some ⟨g3, 0, none⟩))
        have e71 := cell_far c71 hne (.pointer (some ⟨g3, 0, none⟩))
        clear c70 c71 c7
        try (go_wp2_with fail)
        refine hK.out _ _ trivial (fun hHeld => ?_)
        clear hK K
        try simp only [List.getElem_toArray, List.getElem_cons_zero, List.getElem_cons_succ, Act.put, List.setIfInBounds_toArray, List.set_cons_zero, List.set_cons_succ]
        refine wpAnyH_ready (rs := [11]) (by kernel_rfl) (by simp) ?_
        refine AllReadyH.cons rfl (fun K hK => ?_) AllReadyH.nil
        try simp only [List.getElem_toArray, List.getElem_cons_zero, List.getElem_cons_succ]
        go_simp
        refine hK.out _ _ trivial (fun hHeld => ?_)
        clear hK K
        try simp only [List.getElem_toArray, List.getElem_cons_zero, List.getElem_cons_succ, Act.put, List.setIfInBounds_toArray, List.set_cons_zero, List.set_cons_succ]
        refine wpAnyH_take (i := 12) (v := ?_) rfl (by kernel_rfl) (by kernel_rfl) (by kernel_rfl) (fun _ _ _ h => h) (Or.inl ⟨by rfl, ?_⟩) trivial ?_
        rotate_left
        · intro w hSw; first | (go_simp; done) | (go_simp; with_reducible rfl)
        try simp only [List.getElem_toArray, List.getElem_cons_zero, List.getElem_cons_succ, Act.put, List.setIfInBounds_toArray, List.set_cons_zero, List.set_cons_succ]
        refine wpAnyH_done (by kernel_rfl) ?_ _
        (go_wp2_with fail; go_meet; exact ⟨g3, t9, rfl, rfl, rc_of HG.out HT7.out HB7.out HBB.out hl3 hbt9 hz1⟩)
      · skip
        try simp only [List.getElem_toArray, List.getElem_cons_zero, List.getElem_cons_succ]
        go_simp
        refine (ref_new room _).mono ?_
        rintro e wn ⟨rfl, hbn⟩
        have HBB := Lib.hid (HBB.out.trans (hbn.mono HBB.out.size))
        have HBX1 := Lib.hid (HBX1.out.trans (hbn.mono HBX1.out.size))
        have HT7 := Lib.hid (HT7.out.below hbn)
        try have HB7 := Lib.hid (HB7.out.below hbn)
        clear hbn c7 f7
        have c7 : wn.cell? ⟨w1.heap.size, 0, none⟩ = some (.pointer (some ⟨g, 0, none⟩)) := (HT7.out.cell 0).trans rfl
        have f7 := HT7.out.frozen 0
        try have c70 : wn.cell? ⟨t9, 0, none⟩ = some (.int .i64 0) := (HB7.out.cell 0).trans rfl
        try have c71 : wn.cell? ⟨t9, 1, none⟩ = some (.slice none 0 0) := (HB7.out.cell 1).trans rfl
        try have f70 := HB7.out.frozen 0
        try have f71 := HB7.out.frozen 1
        try (go_wp2_with fail)
        refine hK.out _ _ trivial (fun hHeld => ?_)
        clear hK K
        try simp only [List.getElem_toArray, List.getElem_cons_zero, List.getElem_cons_succ, Act.put, List.setIfInBounds_toArray, List.set_cons_zero, List.set_cons_succ]
        refine wpAnyH_ready (rs := [0]) (by kernel_rfl) (by simp) ?_
        refine AllReadyH.cons rfl (fun K hK => ?_) AllReadyH.nil
        try simp only [List.getElem_toArray, List.getElem_cons_zero, List.getElem_cons_succ]
        go_simp
        refine hK.out _ _ trivial (fun hHeld => ?_)
        clear hK K
        try simp only [List.getElem_toArray, List.getElem_cons_zero, List.getElem_cons_succ, Act.put, List.setIfInBounds_toArray, List.set_cons_zero, List.set_cons_succ]
        refine wpAnyH_ready (rs := [4]) (by kernel_rfl) (by simp) ?_
        refine AllReadyH.cons rfl (fun K hK => ?_) AllReadyH.nil
        try simp only [List.getElem_toArray, List.getElem_cons_zero, List.getElem_cons_succ]
        go_simp
        refine (run_new wb w1 _ g room A cap ops HO.out HB.out HBX1.out HSb.out).mono ?_
        rintro e wn ⟨g3, v3, A4, c4, l3, rl3, rfl, hG, hl, hk, hf⟩
        have HT7 := Lib.hid (Own.blk (b := wb.heap.size) ⟨HO.out.net.below HBX1.out, HO.out.hg, HO.out.hv⟩ HT7.out hk (by decide) (by decide))
        try have HB7 := Lib.hid (Own.blk (b := wb.heap.size) ⟨HO.out.net.below HBX1.out, HO.out.hg, HO.out.hv⟩ HB7.out hk (by decide) (by decide))
        have HBB := Lib.hid (hk.out HBB.out (fun k h => HO.out.nb k h) HBB.out.size)
        have HG := Lib.hid hG
        have hl3 : l3.length ≤ ops.length := by simpa using hl
        clear hG hl hk hf c7 f7
        have c7 : wn.cell? ⟨w1.heap.size, 0, none⟩ = some (.pointer (some ⟨g, 0, none⟩)) := (HT7.out.cell 0).trans rfl
        have f7 := HT7.out.frozen 0
        try have c70 : wn.cell? ⟨t9, 0, none⟩ = some (.int .i64 0) := (HB7.out.cell 0).trans rfl
        try have c71 : wn.cell? ⟨t9, 1, none⟩ = some (.slice none 0 0) := (HB7.out.cell 1).trans rfl
        try have f70 := HB7.out.frozen 0
        try have f71 := HB7.out.frozen 1
        try (go_wp2_with fail)
        refine hK.out _ _ trivial (fun hHeld => ?_)
        clear hK K
        try simp only [List.getElem_toArray, List.getElem_cons_zero, List.getElem_cons_succ, Act.put, List.setIfInBounds_toArray, List.set_cons_zero, List.set_cons_succ]
        refine wpAnyH_take (i := 5) (v := ?_) rfl (by kernel_rfl) (by kernel_rfl) (by kernel_rfl) (fun _ _ _ h => h) (Or.inl ⟨by rfl, ?_⟩) trivial ?_
        rotate_left
        · intro w hSw; first | (go_simp; done) | (go_simp; with_reducible rfl)
        try simp only [List.getElem_toArray, List.getElem_cons_zero, List.getElem_cons_succ, Act.put, List.setIfInBounds_toArray, List.set_cons_zero, List.set_cons_succ]
        refine wpAnyH_take (i := 6) (v := ?_) rfl (by kernel_rfl) (by kernel_rfl) (by kernel_rfl) (fun _ _ _ h => h) (Or.inl ⟨by rfl, ?_⟩) trivial ?_
        rotate_left
        · intro w hSw; first | (go_simp; done) | (go_simp; with_reducible rfl)
        try simp only [List.getElem_toArray, List.getElem_cons_zero, List.getElem_cons_succ, Act.put, List.setIfInBounds_toArray, List.set_cons_zero, List.set_cons_succ]
        refine wpAnyH_take (i := 7) (v := ?_) rfl (by kernel_rfl) (by kernel_rfl) (by kernel_rfl) (fun _ _ _ h => h) (Or.inl ⟨by rfl, ?_⟩) trivial ?_
        rotate_left
        · intro w hSw; first | (go_simp; done) | (go_simp; with_reducible rfl)
        try simp only [List.getElem_toArray, List.getElem_cons_zero, List.getElem_cons_succ, Act.put, List.setIfInBounds_toArray, List.set_cons_zero, List.set_cons_succ]
        refine wpAnyH_take (i := 8) (v := ?_) rfl (by kernel_rfl) (by kernel_rfl) (by kernel_rfl) (fun _ _ _ h => h) (Or.inl ⟨by rfl, ?_⟩) trivial ?_
        rotate_left
        · intro w hSw; first | (go_simp; done) | (go_simp; with_reducible rfl)
        try simp only [List.getElem_toArray, List.getElem_cons_zero, List.getElem_cons_succ, Act.put, List.setIfInBounds_toArray, List.set_cons_zero, List.set_cons_succ]
        refine wpAnyH_ready (rs := [10]) (by kernel_rfl) (by simp) ?_
        refine AllReadyH.cons rfl (fun K hK => ?_) AllReadyH.nil
        try simp only [List.getElem_toArray, List.getElem_cons_zero, List.getElem_cons_succ]
        go_simp
        have hne : t9 ≠ w1.heap.size := HB7.out.ne_ HT7.out (by decide)
        have e70 := cell_far c70 hne (.pointer (some ⟨g3, 0, none⟩))
        have e71 := cell_far c71 hne (.pointer (some ⟨g3, 0, none⟩))
        clear c70 c71 c7
        try (go_wp2_with fail)
        refine hK.out _ _ trivial (fun hHeld => ?_)
        clear hK K
        try simp only [List.getElem_toArray, List.getElem_cons_zero, List.getElem_cons_succ, Act.put, List.setIfInBounds_toArray, List.set_cons_zero, List.set_cons_succ]
        refine wpAnyH_ready (rs := [11]) (by kernel_rfl) (by simp) ?_
        refine AllReadyH.cons rfl (fun K hK => ?_) AllReadyH.nil
        try simp only [List.getElem_toArray, List.getElem_cons_zero, List.getElem_cons_succ]
        go_simp
        refine hK.out _ _ trivial (fun hHeld => ?_)
        clear hK K
        try simp only [List.getElem_toArray, List.getElem_cons_zero, List.getElem_cons_succ, Act.put, List.setIfInBounds_toArray, List.set_cons_zero, List.set_cons_succ]
        refine wpAnyH_take (i := 12) (v := ?_) rfl (by kernel_rfl) (by kernel_rfl) (by kernel_rfl) (fun _ _ _ h => h) (Or.inl ⟨by rfl, ?_⟩) trivial ?_
        rotate_left
        · intro w hSw; first | (go_simp; done) | (go_simp; with_reducible rfl)
        try simp only [List.getElem_toArray, List.getElem_cons_zero, List.getElem_cons_succ, Act.put, List.setIfInBounds_toArray, List.set_cons_zero, List.set_cons_succ]
        refine wpAnyH_done (by kernel_rfl) ?_ _
        (go_wp2_with fail; go_meet; exact ⟨g3, t9, rfl, rfl, rc_of HG.out HT7.out HB7.out HBB.out hl3 hbt9 hz1⟩)
  case rest =>
    obtain ⟨g3, t9, rfl, rfl, HC⟩ := hcut
    obtain ⟨⟨v3, A4, c4, l3, rl3, hG3, hl3, hb3, hB9, ht9⟩, hB7⟩ := HC.out
    have hB5 := HK5.out.below hb3
    have c5 : wc.cell? ⟨w.heap.size, 0, none⟩ = some (.int .i64 d) := (hB5.cell 0).trans rfl
    have c7 : wc.cell? ⟨w1.heap.size, 0, none⟩ = some (.pointer (some ⟨g3, 0, none⟩)) := (hB7.cell 0).trans rfl
    have hzc := hG3.size
    have hw2 : w.heap.size + 2 ≤ wb.heap.size := by omega
    have hlr3 := hG3.same.len
    have hln3 : l3.length < 7000000000000 := by omega
    have hlt9 := hB9.lt
    have hlt7 := hB7.lt
    have HB5 := Lib.hid hB5
    have HB6 := Lib.hid (HK6.out.below hb3)
    have HG := Lib.hid hG3
    have HB7 := Lib.hid hB7
    have HB9 := Lib.hid hB9
    have HBw := Lib.hid (HB0.out.trans (hb3.mono (by omega)))
    have HLR := Lib.hid hlr3
    clear HC hG3 hb3 hB5 hB7 hB9 HK5 HK6 HB0 HO HB HSb hlr3 hz0
    go_wp2_with fail
    refine (to_calls g3 d _).mono ?_
    rintro e Wq ⟨rfl, hWq⟩
    have hBq : Below wc.heap.size wc Wq := by rw [hWq]; exact ((Below.refl _ _).alloc (Nat.le_refl _) _).alloc (by simp) _
    have hzq1 : wc.heap.size + 2 ≤ Wq.heap.size := by rw [hWq]; simp
    have hzq2 : Wq.heap.size ≤ wc.heap.size + 2 := by rw [hWq]; simp
    have hq1 : Wq.cell? ⟨wc.heap.size, 0, none⟩ = some (.pointer (some ⟨g3, 0, none⟩)) := by
      rw [hWq]; exact (((Blk.new wc 23 _).alloc _).cell 0).trans rfl
    have hq2 : Wq.cell? ⟨wc.heap.size + 1, 0, none⟩ = some (.int .i64 d) := by
      rw [hWq]
      have h := Blk.new (wc.alloc (.cells #[.pointer (some ⟨g3, 0, none⟩)] 23)) 3 #[.int .i64 d]
      have e : (wc.alloc (.cells #[.pointer (some ⟨g3, 0, none⟩)] 23)).heap.size = wc.heap.size + 1 := by simp
      rw [e] at h
      exact (h.cell 0).trans rfl
    have HBq := Lib.hid hBq
    have HQ1 := Lib.hid hq1
    have HQ2 := Lib.hid hq2
    have HGq := Lib.hid (HG.out.below hBq)
    clear hWq hBq hq1 hq2
    go_wp2_with fail
    refine range_break (a := { tmps := ?T, defers := [] }) (gf := 24) (lb := #[.pointer (some ⟨wc.heap.size, 0, none⟩), .pointer (some ⟨wc.heap.size + 1, 0, none⟩)]) ?hg (Go.Proofs.enters_of Try.func24 (by kernel_rfl) rfl) l3.length
      (fun _ _ args _ => args.size = 2) (fun W => Below Wq.heap.size Wq W) ?hF ?hps (fun _ h => h) ?hseq ?hassign ?hbody ?hdone
    case hg => rfl
    case hps => exact fun _ _ _ _ h => h
    case hF => exact fun _ W W' row hs hgr hr => hs.grown hgr hs.size (fun k e => (hr k e).1)
    case hseq =>
      intro l2 J Jx W hbW hzW hJo hJxo hJF h02 hstep hY2
      refine (to1 l2 wc.heap.size (wc.heap.size + 1) g3 v3 (max room 0) d l3 J Jx W ?c1 (HGq.out.own.net.below hbW) hln3 HGq.out.short hJo hJxo ?hto ?hraw ?g0 ?hskip ?hY).mono (fun e W' h => h)
      case c1 => exact (hbW.cell (p := ⟨_, 0, none⟩) (block_lt HQ1.out)).trans HQ1.out
      case hto => exact fun Q k W' hj => ((hJF Q k W' hj).cell (p := ⟨_, 0, none⟩) (block_lt HQ2.out)).trans HQ2.out
      case hraw => exact fun Q k W' hj x hx => (HGq.out.own.net.below (hJF Q k W' hj)).msg x hx
      case g0 => exact fun Q W1 hb hQ hQ2 => h02 Q W1 hb hQ hQ2 trivial
      case hskip => exact fun Q k x W1 hx hd hj => hstep Q k W1 (hJF Q k W1 hj) hj
      case hY => exact fun Q k x W1 U cu hQ hQ2 hx hd hj hown => hY2 Q k _ W1 hQ hQ2 trivial (List.getElem?_eq_some_iff.1 hx).1 hj rfl
    case hassign =>
      intro l2 tmps W K hK
      gi_wp2
      exact hK _
    case hbody =>
      intro l2 a' W R hR
      gi_wp2
      exact hR _
    case hdone =>
      intro wt hF hD
      have HBt : Hid (Below wc.heap.size wc wt) := HBq.out.trans (hF.mono (by omega))
      have hzt := hF.size
      have hdq : Wq.heap.size < wt.heap.size := (Array.getElem?_eq_some_iff.1 hD).1
      have HD1 := Lib.hid hD
      have e5 := cell_alloc_of (blk0 (HB5.out.below HBt.out)) (.cells #[.int .i64 0] 3)
      have e7 := cell_alloc_of (blk0 (HB7.out.below HBt.out)) (.cells #[.int .i64 0] 3)
      have HNB := Lib.hid HG.out.own.nb_lt
      clear hF hD HGq HQ1 HQ2 c5 c7
      go_wp2_with fail
      refine (to_calls g3 d _).mono ?_
      rintro e Wr ⟨rfl, hWr⟩
      have hBr : Below wt.heap.size wt Wr := by
        rw [hWr]; exact (((Below.refl _ wt).alloc (Nat.le_refl _) (.cells #[.int .i64 0] 3)).alloc (by simp) (.cells #[.pointer (some ⟨g3, 0, none⟩)] 23)).alloc (by simp; omega) (.cells #[.int .i64 d] 3)
      have hzr1 : wt.heap.size + 3 ≤ Wr.heap.size := by rw [hWr]; simp
      have hzr2 : Wr.heap.size ≤ wt.heap.size + 3 := by rw [hWr]; simp
      have H10 : Hid (Blk Wr wt.heap.size 3 #[.int .i64 0]) := by
        rw [hWr]; exact ((Blk.new wt 3 _).alloc _).alloc _
      have HR1 : Hid (Wr.cell? ⟨wt.heap.size + 1, 0, none⟩ = some (.pointer (some ⟨g3, 0, none⟩))) := by
        rw [hWr]
        have h := Blk.new (wt.alloc (.cells #[.int .i64 0] 3)) 23 #[.pointer (some ⟨g3, 0, none⟩)]
        have e : (wt.alloc (.cells #[.int .i64 0] 3)).heap.size = wt.heap.size + 1 := by simp
        rw [e] at h
        exact ((h.alloc _).cell 0).trans rfl
      have HR2 : Hid (Wr.cell? ⟨wt.heap.size + 1 + 1, 0, none⟩ = some (.int .i64 d)) := by
        rw [hWr]
        have h := Blk.new ((wt.alloc (.cells #[.int .i64 0] 3)).alloc (.cells #[.pointer (some ⟨g3, 0, none⟩)] 23)) 3 #[.int .i64 d]
        have e : ((wt.alloc (.cells #[.int .i64 0] 3)).alloc (.cells #[.pointer (some ⟨g3, 0, none⟩)] 23)).heap.size = wt.heap.size + 1 + 1 := by simp
        rw [e] at h
        exact (h.cell 0).trans rfl
      have HBr : Hid (Below wc.heap.size wc Wr) := HBt.out.trans (hBr.mono HBt.out.size)
      have hzct := HBt.out.size
      have HBR : Hid (Below w.heap.size w Wr) := HBw.out.trans (HBr.out.mono HBw.out.size)
      have HGr := Lib.hid (HG.out.below HBr.out)
      have HB5r := Lib.hid (HB5.out.below HBr.out)
      have HB6r := Lib.hid (HB6.out.below HBr.out)
      have HB7r := Lib.hid (HB7.out.below HBr.out)
      have HB9r := Lib.hid (HB9.out.below HBr.out)
      have HD1r : Hid (Wr.heap[Wq.heap.size]? = some (.deferred (some []))) := (hBr.block _ hdq).trans HD1.out
      have hzw := HBw.out.size
      clear hWr hBr e5 e7 HD1 HB5 HB6 HB7 HB9 HBq
      go_wp2_with fail
      refine (wpIn_wide (n := 0)).1 ?_
      refine range_law (a := { tmps := ?T2, defers := [{ target := .collected Wq.heap.size, args := #[] }] }) (gf := 24) (lb := #[.pointer (some ⟨wt.heap.size + 1, 0, none⟩), .pointer (some ⟨wt.heap.size + 1 + 1, 0, none⟩)]) ?hg2 (Go.Proofs.enters_of Try.func24 (by kernel_rfl) rfl) l3.length (fun _ => True)
        (fun Q k args W => ∃ x U cu, l3[k]? = some x ∧ x.dst = d ∧ W.ownsRow Q 5 1 (.slice U x.raw.length cu) x.raw.length (bcs x.raw) ∧ args = #[.int .i64 k, .slice U x.raw.length cu])
        (fun Q k W => IrEx wb.heap.size Wr g3 v3 (max room 0) l3 wt.heap.size d Q k W) (fun _ _ => False) ?hI2 ?hIx2 ?hps2 ?h02 ?hseq2
        (fun Q k _ a' W => AxR ?T2 l3 d Q k a' W) ?hAx2 ?hassign2 ?hbody2 ?hdone2 ?hstop2
      case hg2 => rfl
      case hI2 => exact fun Q => IrEx.own Q
      case hIx2 =>
        intro cd W W' row hs hg hr
        exact hs.elim
      case hps2 =>
        rintro Q k args W ⟨x, U, cu, _, _, _, rfl⟩
        rfl
      case h02 =>
        intro Q W hb hQ hQ2 _
        exact Ir.start HGr.out.own HGr.out.short H10.out hb
      case hseq2 =>
        intro l2 J Jx W hbW hzW hJo hJxo hJI h02 hstep hY2
        refine (to1 l2 (wt.heap.size + 1) (wt.heap.size + 1 + 1) g3 v3 (max room 0) d l3 J Jx W ?c12 (HGr.out.own.net.below hbW) hln3 HGr.out.short hJo hJxo ?hto2 ?hraw2 ?g02 ?hskip2 ?hY2).mono (fun e W' h => h)
        case c12 => exact (hbW.cell (p := ⟨_, 0, none⟩) (block_lt HR1.out)).trans HR1.out
        case hto2 =>
          intro Q k W' hj
          obtain ⟨_, _, _, hi⟩ := hJI Q k W' hj
          refine (cell_of_same (p := ⟨_, 0, none⟩) (hi.kp.block _ (block_lt HR2.out) ?_)).trans HR2.out
          rintro (e | e)
          · simp at e
            omega
          · have := HNB.out _ e
            simp at this
            omega
        case hraw2 =>
          intro Q k W' hj x hx
          obtain ⟨_, _, _, hi⟩ := hJI Q k W' hj
          exact hi.lies x hx
        case g02 => exact fun Q W1 hb hQ hQ2 => h02 Q W1 hb hQ hQ2 trivial
        case hskip2 => exact fun Q k x W1 hx hd hj => hstep Q k W1 (Ir.skip hx hd (hJI Q k W1 hj)) hj
        case hY2 => exact fun Q k x W1 U cu hQ hQ2 hx hd hj hown => hY2 Q k _ W1 hQ hQ2 trivial (List.getElem?_eq_some_iff.1 hx).1 hj ⟨x, U, cu, hx, hd, hown, rfl⟩
      case hAx2 =>
        rintro Q k args a' s W W' row ⟨x, U, cu, hx, hd, hown, rfl⟩ hg hr
        exact ⟨x, U, cu, hx, hd, own_grown hown hg hr, rfl⟩
      case hassign2 =>
        rintro l2 Q k args W K hQ1 hQ2 _ hk hi ⟨x, U, cu, hx, hd, hown, rfl⟩ hK
        have HK := Lib.hid hK
        have HI := Lib.hid hi
        have HX := Lib.hid hx
        have HD := Lib.hid hd
        have HO := Lib.hid hown
        clear hK hi hx hd hown
        gi_wp2
        exact HK.out _ _ (Kept.refl _ _ _) HI.out ⟨x, U, cu, HX.out, HD.out, HO.out, rfl⟩
      case hstop2 =>
        intro cd W h
        exact h.elim
      case hdone2 =>
        rintro Q W ⟨v, l, kk, hi⟩ hD
        have HI := Lib.hid hi
        have HD2 := Lib.hid hD
        have hle := hi.le
        have hlr := HLR.out
        have hle2 : kk ≤ rl3.length := by omega
        have hrb : (rl3.length : Int) ≤ 7000000000000 := by omega
        clear hi hD hle
        go_wp2_with fail
        go_loopw [] (fun wr => ∃ j : Nat, kk ≤ j ∧ j ≤ rl3.length ∧ Hid (Kp (fun r => r = wt.heap.size) W wr ∧ Blk wr wt.heap.size 3 #[.int .i64 j])) (fun wr => rl3.length - ctr wr wt.heap.size)
        case atStart => exact ⟨kk, Nat.le_refl _, hle2, Kp.refl _ _, HI.out.b10⟩
        case round =>
          obtain ⟨j, hj1, hj2, HL⟩ := hrel
          have hkr : Kp (fun r => r = wt.heap.size ∨ Nb g3 v3 r) Wr wr := HI.out.kp.trans HL.out.1 (fun _ _ e => .inl e)
          have hRf := rf_two HGr.out.rf HGr.out.own H10.out (by omega) hkr
          have B9 := blk_two HB9r.out HGr.out.own (by omega) (by decide) (by decide) hkr
          have B5 := blk_two HB5r.out HGr.out.own (by omega) (by decide) (by decide) hkr
          have B6 := blk_two HB6r.out HGr.out.own (by omega) (by decide) (by decide) hkr
          have p10 := blk0 HL.out.2
          have f10 := HL.out.2.frozen 0
          have p5 := blk0 B5
          have p6 := blk0 B6
          have f6 := B6.frozen 0
          have p9 : wr.cell? ⟨t9, 1, none⟩ = some (.slice A4 rl3.length c4) := (B9.cell 1).trans rfl
          by_cases hjl : j < rl3.length
          · obtain ⟨x3, hx3⟩ : ∃ x3, l3[j]? = some x3 := ⟨_, List.getElem?_eq_getElem (by omega)⟩
            obtain ⟨y, hy, h1, h2⟩ := HGr.out.same.get hx3
            have hSL : Sl wr 2 A4 rl3.length (rl3.flatMap Ms.cells) := by
              obtain ⟨A', c', e, _, _, h⟩ := hRf.slice
              injection e with e1 _ _
              subst e1
              exact h
            obtain ⟨bi, oi, rfl, x0⟩ := hSL.at_ (j := j * 2 + 0) (u := .int .i64 y.dst) (by rw [flat_at rl3 j 0 y hy (by omega)]; rfl)
            rw [Nat.add_zero] at x0
            have hbe : (y.dst == d) = false := beq_eq_false_iff_ne.2 (by rw [h1]; exact HI.out.none_ j hj1 (by omega) x3 hx3)
            have hji : (j : Int) < (rl3.length : Int) := by omega
            clear hx3 hy h1 h2 hkr hRf B9 B5 B6 hSL hlr
            go_wp2_with fail
            go_quiet (fail)
            go_wp2_with fail
            go_roundw
            case rel =>
              have hb := (HL.out.2.drewN nq).set_ 0 (.int .i64 ((j : Int) + 1))
              exact ⟨j + 1, by omega, by omega, (HL.out.1.drewN nq).set (p := ⟨wt.heap.size, 0, none⟩) (.inl rfl) _, by simpa using hb⟩
            case measure =>
              have hb := (HL.out.2.drewN nq).set_ 0 (.int .i64 ((j : Int) + 1))
              have e1 : ctr ((wr.drewN nq).setCell ⟨wt.heap.size, 0, none⟩ (.int .i64 ((j : Int) + 1))) wt.heap.size = j + 1 := ctr_of (by simpa using hb)
              have e2 := ctr_of HL.out.2
              rw [e1, e2]
              omega
          · obtain rfl : j = rl3.length := by omega
            have hD2 : wr.heap[Wr.heap.size]? = some (.deferred (some [])) := (HL.out.1.block _ (Array.getElem?_eq_some_iff.1 HD2.out).1 (by omega)).trans HD2.out
            have hD1 : wr.heap[Wq.heap.size]? = some (.deferred (some [])) := by
              refine (hkr.block _ (by omega) ?_).trans HD1r.out
              rintro (e | e)
              · omega
              · have := HNB.out _ e
                omega
            have HBY : Hid (Below w.heap.size w wr) := hkr.out HBR.out (fun q e => by
              rcases e with e | e
              · omega
              · have := HGr.out.own.nb q e
                omega) HBR.out.size
            have HB6 := Lib.hid B6
            have HE2 := Lib.hid hD2
            have HE1 := Lib.hid hD1
            clear hkr hRf B9 B5 B6 hlr hD1 hD2 hjl
            go_wp2_with fail
            have h2 : (wr.setCell ⟨w.heap.size + 1, 0, none⟩ (.bool true)).heap[Wr.heap.size]? = some (.deferred (some [])) := (Below.heap_setCell wr ⟨w.heap.size + 1, 0, none⟩ _ _ (by simp; omega)).trans HE2.out
            have h1 : ((wr.setCell ⟨w.heap.size + 1, 0, none⟩ (.bool true)).putObj Wr.heap.size (.deferred none)).heap[Wq.heap.size]? = some (.deferred (some [])) :=
              (World.putObj_heap_other (by omega)).trans ((Below.heap_setCell wr ⟨w.heap.size + 1, 0, none⟩ _ _ (by simp; omega)).trans HE1.out)
            have hs1 := HBY.out.size
            have hBF : Below w.heap.size w (((wr.setCell ⟨w.heap.size + 1, 0, none⟩ (.bool true)).putObj Wr.heap.size (.deferred none)).putObj Wq.heap.size (.deferred none)) :=
              ((HBY.out.setCell (by simp) _).grown (grownBy_putObj' _ _ _) (by simpa [World.setCell] using hs1) (fun k e => by cases e; omega)).grown (grownBy_putObj' _ _ _) (by simpa [World.setCell] using hs1) (fun k e => by cases e; omega)
            have hc : (((wr.setCell ⟨w.heap.size + 1, 0, none⟩ (.bool true)).putObj Wr.heap.size (.deferred none)).putObj Wq.heap.size (.deferred none)).cell? ⟨w.heap.size + 1, 0, none⟩ = some (.bool true) := by
              refine (cell_of_same (p := ⟨w.heap.size + 1, 0, none⟩) ((World.putObj_heap_other (by simp; omega)).trans (World.putObj_heap_other (by simp; omega)))).trans ?_
              have h := HB6.out.set_ 0 (.bool true)
              exact (h.cell 0).trans rfl
            refine ⟨by simp, .inl ⟨_, _, rfl, run_takeDeferred h2, ⟨by simp, .inl ⟨_, _, rfl, run_takeDeferred h1, ?_⟩⟩⟩⟩
            exact ⟨.bool true, by simp [results, Try.results3, go_sem, hc], rfl, hBF⟩
      case hbody2 =>
        rintro l2 Q k args a' W hQ1 hQ2 _ hk ⟨v, l, kk, hi⟩ ⟨x, U, cu, hx, hd, hown, rfl⟩
        simp only [List.setIfInBounds_toArray, List.set_cons_zero, List.set_cons_succ]
        have HI := Lib.hid hi
        have HX := Lib.hid hx
        have HD := Lib.hid hd
        have HOW := Lib.hid hown
        clear hi hx hd hown
        gi_wp2
        gi_loopw [] (fun wr => ∃ j : Nat, kk ≤ j ∧ j ≤ k ∧ Hid (Kp (fun r => r = wt.heap.size) W wr ∧ Blk wr wt.heap.size 3 #[.int .i64 j])) (fun wr => k - ctr wr wt.heap.size)
        case atStart => exact ⟨kk, Nat.le_refl _, HI.out.le, Kp.refl _ _, HI.out.b10⟩
        case round =>
          obtain ⟨j, hj1, hj2, HL⟩ := hrel
          obtain ⟨x3, hx3⟩ : ∃ x3, l3[j]? = some x3 := ⟨_, List.getElem?_eq_getElem (by omega)⟩
          obtain ⟨y, hy, h1, h2⟩ := HGr.out.same.get hx3
          have hlr := HLR.out
          have hkr : Kp (fun r => r = wt.heap.size ∨ Nb g3 v3 r) Wr wr := HI.out.kp.trans HL.out.1 (fun _ _ e => .inl e)
          have hRf := rf_two HGr.out.rf HGr.out.own H10.out (by omega) hkr
          have B9 := blk_two HB9r.out HGr.out.own (by omega) (by decide) (by decide) hkr
          have B7 := blk_two HB7r.out HGr.out.own (by omega) (by decide) (by decide) hkr
          have B5 := blk_two HB5r.out HGr.out.own (by omega) (by decide) (by decide) hkr
          have hSL : Sl wr 2 A4 rl3.length (rl3.flatMap Ms.cells) := by
            obtain ⟨A', c', e, _, _, h⟩ := hRf.slice
            injection e with e1 _ _
            subst e1
            exact h
          obtain ⟨bi, oi, rfl, x0⟩ := hSL.at_ (j := j * 2 + 0) (u := .int .i64 y.dst) (by rw [flat_at rl3 j 0 y hy (by omega)]; rfl)
          obtain ⟨b', o', e', x1⟩ := hSL.at_ (j := j * 2 + 1) (u := y.v) (by rw [flat_at rl3 j 1 y hy (by omega)]; rfl)
          injection e' with e'
          injection e' with e1 e2
          subst e1 e2
          obtain ⟨C, cc, hv, hcs, hnil⟩ := (hRf.safe y (List.mem_of_getElem? hy)).reads
          clear hnil
          rw [hv] at x1
          rw [Nat.add_zero] at x0
          rw [← Nat.add_assoc] at x1
          have p10 := blk0 HL.out.2
          have f10 := HL.out.2.frozen 0
          have p5 := blk0 B5
          have p7 := blk0 B7
          have p9 : wr.cell? ⟨t9, 1, none⟩ = some (.slice (some ⟨bi, oi, none⟩) rl3.length c4) := (B9.cell 1).trans rfl
          have hjl : (j : Int) < (rl3.length : Int) := by omega
          by_cases hjk : j < k
          · have hbe : (y.dst == d) = false := beq_eq_false_iff_ne.2 (by rw [h1]; exact HI.out.none_ j hj1 hjk x3 hx3)
            clear hx3 hy h1 h2 hkr hRf B9 B7 B5 hSL hv hcs x1 hlr
            gi_wp2
            refine quiet_round (by kernel_rfl) (by kernel_rfl) (by kernel_rfl) ?_
            repeat (quiet_step (fail))
            refine wpQuiet_nil ?_
            intro _ hw'
            obtain ⟨nq, hw''⟩ := hw'
            subst hw''
            gi_wp2
            go_roundw
            case rel =>
              have hb := (HL.out.2.drewN nq).set_ 0 (.int .i64 ((j : Int) + 1))
              exact ⟨j + 1, by omega, by omega, (HL.out.1.drewN nq).set (p := ⟨wt.heap.size, 0, none⟩) (.inl rfl) _, by simpa using hb⟩
            case measure =>
              have hb := (HL.out.2.drewN nq).set_ 0 (.int .i64 ((j : Int) + 1))
              have e1 : ctr ((wr.drewN nq).setCell ⟨wt.heap.size, 0, none⟩ (.int .i64 ((j : Int) + 1))) wt.heap.size = j + 1 := ctr_of (by simpa using hb)
              have e2 := ctr_of HL.out.2
              rw [e1, e2]
              omega
          · obtain rfl : j = k := by omega
            obtain rfl : x3 = x := by have h := HX.out; rw [hx3] at h; injection h
            have hyd : y.dst = d := h1.trans HD.out
            rw [hyd] at x0
            rw [h2] at x1 hcs
            have hdec : decide (rl3.length ≤ j) = false := decide_eq_false (by omega)
            have hOWr := own_kp HOW.out HL.out.1 (fun q e e2 => by have := (HOW.out.lt q e).1; omega)
            have hslU : Sl wr 1 U x3.raw.length (bcs x3.raw) := by
              obtain ⟨A', c', e, _, _, _, h, _⟩ := Sl.of_own hOWr
              injection e with e1 _ _
              subst e1
              exact h
            have hs1 := fun j => run_string_of (P := Try.prog) (wr.drewN j) 35 5 Try.underlying35 Try.underlying5 U _ cu _ (hslU.drewN j) 9 Try.underlying9
            have hs2 := fun j => run_string_of (P := Try.prog) (wr.drewN j) 35 5 Try.underlying35 Try.underlying5 C _ cc _ (hcs.drewN j) 9 Try.underlying9
            have HP5 := Lib.hid B5
            have HP7 := Lib.hid B7
            clear hx3 hy h1 h2 hyd hkr hRf B9 B7 B5 hSL hv hlr hcs hslU hOWr hj2 hjk
            gi_wp2
            refine quiet_round (by kernel_rfl) (by kernel_rfl) (by kernel_rfl) ?_
            repeat (quiet_step (fail))
            refine wpQuiet_nil ?_
            intro _ hw'
            obtain ⟨nq, hw''⟩ := hw'
            subst hw''
            gi_wp2
            refine quiet_round (by kernel_rfl) (by kernel_rfl) (by kernel_rfl) ?_
            repeat (quiet_step (fail))
            refine wpQuiet_nil ?_
            intro _ hw'
            obtain ⟨nr, hw''⟩ := hw'
            subst hw''
            gi_wp2
            obtain ⟨W1, hW1⟩ : ∃ W1, W1 = (wr.drewN (nq + nr)).setCell ⟨wt.heap.size, 0, none⟩ (.int .i64 ((j : Int) + 1)) := ⟨_, rfl⟩
            have hk1 : Kp (fun r => r = wt.heap.size) W W1 := by rw [hW1]; exact (HL.out.1.drewN _).set (p := ⟨wt.heap.size, 0, none⟩) (.inl rfl) _
            have hB1 : Blk W1 wt.heap.size 3 #[.int .i64 ((j : Int) + 1)] := by
              rw [hW1]
              have hb := (HL.out.2.drewN (nq + nr)).set_ 0 (.int .i64 ((j : Int) + 1))
              simpa using hb
            have h5 : Blk W1 w.heap.size 3 #[.int .i64 d] := by rw [hW1]; exact (HP5.out.drewN _).far (p := ⟨wt.heap.size, 0, none⟩) (by show w.heap.size ≠ wt.heap.size; omega) _
            have h7 : Blk W1 w1.heap.size 23 #[.pointer (some ⟨g3, 0, none⟩)] := by rw [hW1]; exact (HP7.out.drewN _).far (p := ⟨wt.heap.size, 0, none⟩) (by show w1.heap.size ≠ wt.heap.size; omega) _
            have hO1 := own_of_kp HI.out.own hk1 (fun e => HI.out.b10.ne_ HI.out.own.net.blk (by decide) e.symm) (fun q e e2 => own_ne HI.out.own.net.own HI.out.b10 (by decide) (e2 ▸ e)) (fun x hx q e e2 => own_ne (HI.out.own.net.msg x hx) HI.out.b10 (by decide) (e2 ▸ e))
            have hll := HI.out.len
            obtain ⟨xm, hxm⟩ : ∃ xm, l[0]? = some xm := ⟨_, List.getElem?_eq_getElem (by omega)⟩
            have hxs := HI.out.short xm (List.mem_of_getElem? hxm)
            rw [← hW1]
            clear hW1 x0 x1 p10 f10 p5 p7 p9 hs1 hs2 hdec hjl
            refine ⟨trivial, CallsIn.inRound l2 (callsIn_wide.2 ((take_yes W1 g3 v (max room 0) l hO1.net 0 xm hxm (by omega) (by omega)).mono ?_))⟩
            rintro e W2 ⟨u, rfl, _, v', hn', hk', hv'⟩
            have q5 := blk0 (Blk.kp h5 hk' (h5.ne_ hO1.net.blk (by decide)))
            have q7 := blk0 (Blk.kp h7 hk' (h7.ne_ hO1.net.blk (by decide)))
            have HB1 := Lib.hid hB1
            have HK1 := Lib.hid hk1
            have HN := Lib.hid hn'
            have HK2 := Lib.hid hk'
            have HV := Lib.hid hv'
            have HLL := Lib.hid hll
            clear hB1 hk1 hn' hk' hv' h5 h7 hO1 hxm hll
            gi_wp2
            have HB3 : Hid (Below W2.heap.size W2 (W2.alloc (.cells #[.int .u8 1, .int .u8 2, .int .u8 3] 5))) := (Below.refl _ _).alloc (Nat.le_refl _) _
            have hle := HGr.out.le
            have hle2 : ((l.take 0 ++ l.drop (0 + 1)).length : Int) < (l3.length : Int) := by
              have := HLL.out
              simp only [List.take_zero, List.nil_append, List.length_drop]
              omega
            refine ⟨trivial, CallsIn.inRound l2 (callsIn_wide.2 ((send_ok _ g3 v' (max room 0) _ (HN.out.below HB3.out) (by omega) (by omega) d (some ⟨W2.heap.size, 0, none⟩) 3 [1, 2, 3] (sl123 W2) (by intro h; cases h) (by decide)).mono ?_))⟩
            rintro e W4 ⟨rfl, hs⟩
            have HS := Lib.hid hs
            clear hs
            gi_wp2
            exact ir_round (by have := HBr.out.size; omega) HGr.out.own (by omega) (by omega) hQ2 HI.out HK1.out HB1.out (by have := HLL.out; omega) HN.out HK2.out HV.out HB3.out HS.out
end Go.Proofs.Ytogiedephnappaa.Net
