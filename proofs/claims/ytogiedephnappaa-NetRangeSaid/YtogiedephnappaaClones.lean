/- The walk of dockyardlaw03.NetClones. -/
import Derived.Test.YtogiedephnappaaUndone
namespace Go.Proofs.Ytogiedephnappaa.Net
open Go.RowKit Go.ChangeShapes Go.WideShapes Go.Deep Go.Proofs.Ytogiedephnappaa.Mem Go.Proofs.Ytogiedephnappaa.Open

/-- Three scripts, as a struct by value. -/
structure Wy where
  A1 : Option Addr
  c1 : Nat
  o1 : List Cl
  A2 : Option Addr
  c2 : Nat
  o2 : List Cl
  A3 : Option Addr
  c3 : Nat
  o3 : List Cl

structure Wy.Fine (W : World) (y : Wy) : Prop where
  s1 : Script W y.A1 y.o1
  s2 : Script W y.A2 y.o2
  s3 : Script W y.A3 y.o3

theorem open_script_cell {H : Type} {enc : TypeId × Value → H} {W : World} {base : Nat} {spare : Nat → Bool} {held : Bool} {n : Nat} {v : Value} {y : DataW H × List MemPlace} (h : DataW.trod enc Try.prog W base spare held n 22 [v] = some y) (hsz : (y.1.weights Try.prog 22).all (· ≤ reachBytes) = true) :
    ∃ A c ops, v = .slice A (List.length ops) c ∧ Script W A ops := by
  obtain ⟨A, m, c, rfl⟩ : ∃ A m c, v = .slice A m c := by
    rcases open_slice Try.underlying22 h with ⟨h1, _⟩ | ⟨_, _, _, _, _, _, _, h1, _⟩
    · injection h1 with h1; exact ⟨_, _, _, h1⟩
    · injection h1 with h1; exact ⟨_, _, _, h1⟩
  obtain ⟨ops, rfl, hS⟩ := open_script (cap := c) ⟨n, h⟩ hsz
  exact ⟨A, c, ops, rfl, hS⟩

set_option linter.unusedSimpArgs false in
theorem open_ways_arg {H : Type} {enc : TypeId × Value → H} {W : World} {base : Nat} {spare : Nat → Bool} {held : Bool} {r : Reach} {b0 : Nat} {v : Value} {d : DataW H} {p : List MemPlace} (hv : Value.okWide Try.prog W r b0 56 v)
    (h : DataW.Trod enc Try.prog W base spare held 56 v d p) (hsz : (d.weights Try.prog 56).all (· ≤ reachBytes) = true) :
    ∃ y : Wy, v = .agg #[.slice y.A1 y.o1.length y.c1, .slice y.A2 y.o2.length y.c2, .slice y.A3 y.o3.length y.c3] ∧ y.Fine W := by
  obtain ⟨cs, rfl, hcs⟩ := okWide_struct Try.underlying56 hv
  obtain ⟨l⟩ := cs
  have k56 : Try.prog.cellsOf 56 = 3 := by kernel_rfl
  obtain ⟨fuel, hf⟩ := h
  have hlen : l.length = 3 := hcs.trans k56
  obtain ⟨ys, n, _, hx, _, hyl, hg⟩ := DataW.trod_struct Try.underlying56 hf
  match l, hlen with
  | [v0, v1, v2], _ =>
  match ys, hyl with
  | [y0, y1, y2], _ =>
  have g0 := hg 0 _ rfl
  have g1 := hg 1 _ rfl
  have g2 := hg 2 _ rfl
  have k22 : Try.prog.cellsOf 22 = 1 := by kernel_rfl
  simp only [k22, Value.cells, List.drop_zero, List.drop_succ_cons, List.take_succ_cons, List.take_zero, List.getElem?_cons_zero, List.getElem?_cons_succ] at g0 g1 g2
  simp only [Prod.mk.injEq] at hx
  obtain ⟨hx1, _⟩ := hx
  subst hx1
  have each : ∀ (j : Nat) (y : DataW H × List MemPlace), [y0, y1, y2][j]? = some y → j < 3 → (y.1.weights Try.prog 22).all (· ≤ reachBytes) = true := by
    intro j y hy hj
    have h2 := hsz
    simp only [DataW.weights, Try.underlying56] at h2
    refine List.all_eq_true.2 fun z hz => List.all_eq_true.1 h2 z ?_
    refine DataW.weights_mem_each (ts := [22, 22, 22]) (ds := [y0.1, y1.1, y2.1]) (j := j) (t := 22) (d := y.1) ?_ ?_ z hz
    · match j, hj with
      | 0, _ => rfl
      | 1, _ => rfl
      | 2, _ => rfl
    · match j, hj, hy with
      | 0, _, hy => simp at hy; subst hy; rfl
      | 1, _, hy => simp at hy; subst hy; rfl
      | 2, _, hy => simp at hy; subst hy; rfl
  obtain ⟨A1, c1, o1, rfl, S1⟩ := open_script_cell g0 (each 0 y0 rfl (by omega))
  obtain ⟨A2, c2, o2, rfl, S2⟩ := open_script_cell g1 (each 1 y1 rfl (by omega))
  obtain ⟨A3, c3, o3, rfl, S3⟩ := open_script_cell g2 (each 2 y2 rfl (by omega))
  exact ⟨⟨A1, c1, o1, A2, c2, o2, A3, c3, o3⟩, rfl, S1, S2, S3⟩

/-- Two nets, each with the reference's list of it, apart. -/
structure Tw (b : Nat) (wb wr : World) (room : Int) (t7 t9 : Nat) (g : Nat) (v : Value) (l : List Ms) (A : Option Addr) (c : Nat) (rl : List Ms) (h : Nat) (u : Value) (m : List Ms) (B : Option Addr) (d : Nat) (sl : List Ms) (n1 n2 : Nat) : Prop where
  one : Good b wr g v room l (.slice A rl.length c) rl
  two : Good b wr h u room m (.slice B sl.length d) sl
  apart : ∀ k, Nb g v k → ¬ Nb h u k
  below : Below b wb wr
  b7 : Blk wr t7 28 #[.int .i64 room, .slice A rl.length c]
  b9 : Blk wr t9 28 #[.int .i64 room, .slice B sl.length d]
  ne : t7 ≠ t9
  le7 : b ≤ t7
  le9 : b ≤ t9
  l1 : l.length ≤ n1
  l2 : m.length ≤ n2

section
variable {b : Nat} {wb wr w' : World} {room : Int} {t7 t9 g h : Nat} {v u : Value} {l rl m sl : List Ms} {A B : Option Addr} {c d n1 n2 : Nat}
theorem Tw.swap (H : Tw b wb wr room t7 t9 g v l A c rl h u m B d sl n1 n2) : Tw b wb wr room t9 t7 h u m B d sl g v l A c rl n2 n1 :=
  ⟨H.two, H.one, fun k h1 h2 => H.apart k h2 h1, H.below, H.b9, H.b7, H.ne.symm, H.le9, H.le7, H.l2, H.l1⟩
theorem Tw.keep (H : Tw b wb wr room t7 t9 g v l A c rl h u m B d sl n1 n2) (hb : Below wr.heap.size wr w') : Tw b wb w' room t7 t9 g v l A c rl h u m B d sl n1 n2 :=
  ⟨H.one.below hb, H.two.below hb, H.apart, H.below.trans (hb.mono H.one.size), H.b7.below hb, H.b9.below hb, H.ne, H.le7, H.le9, H.l1, H.l2⟩
theorem Tw.step (H : Tw b wb wr room t7 t9 g v l A c rl h u m B d sl n1 n2) {g' : Nat} {v' : Value} {l' rl' : List Ms} {A' : Option Addr} {c' : Nat} (hG : Good b w' g' v' room l' (.slice A' rl'.length c') rl') (hl : l'.length ≤ l.length + 1) (hk : Kp (Nb g v) wr w') (hf : ∀ k, Nb g' v' k → Nb g v k ∨ wr.heap.size ≤ k) :
    Tw b wb ((w'.setCell ⟨t7, 0, none⟩ (.int .i64 room)).setCell ⟨t7, 1, none⟩ (.slice A' rl'.length c')) room t7 t9 g' v' l' A' c' rl' h u m B d sl (n1 + 1) n2 := by
  have B7 := H.one.own.blk H.b7 hk (by decide) (by decide)
  have B9 := H.one.own.blk H.b9 hk (by decide) (by decide)
  have hO2 : Own b w' h u room m := own_of_kp H.two.own hk (fun e => H.apart h e (.inl rfl)) (fun k e e2 => H.apart k e2 (.inr e)) (fun x hx k e => H.one.own.net.not_nb (H.two.own.net.msg x hx) k e)
  have hG2 : Good b w' h u room m (.slice B sl.length d) sl := ⟨hO2, H.two.rf.net H.one.own hk, H.two.same, H.two.short, H.two.le, Nat.le_trans H.two.size hk.size⟩
  have hne : t9 ≠ t7 := H.ne.symm
  refine ⟨(hG.box (p := ⟨t7, 0, none⟩) B7 (by decide) (by decide) (by decide) (by decide) H.le7 _).box (p := ⟨t7, 1, none⟩) (B7.set_ 0 _) (by decide) (by decide) (by decide) (by decide) H.le7 _,
    (hG2.box (p := ⟨t7, 0, none⟩) B7 (by decide) (by decide) (by decide) (by decide) H.le7 _).box (p := ⟨t7, 1, none⟩) (B7.set_ 0 _) (by decide) (by decide) (by decide) (by decide) H.le7 _, fun k h1 h2 => ?_,
    ((hk.out H.below H.one.own.nb H.one.size).setCell (p := ⟨t7, 0, none⟩) H.le7 _).setCell (p := ⟨t7, 1, none⟩) H.le7 _, ?_, (B9.far (p := ⟨t7, 0, none⟩) hne _).far (p := ⟨t7, 1, none⟩) hne _, H.ne, H.le7, H.le9, by have := H.l1; omega, H.l2⟩
  · rcases hf k h1 with h3 | h3
    · exact H.apart k h3 h2
    · have := H.two.own.nb_lt k h2
      omega
  · have := (B7.set_ 0 (.int .i64 room)).set_ 1 (.slice A' rl'.length c')
    simpa using this
end

theorem Tw.more {b : Nat} {wb wr : World} {room : Int} {t7 t9 g h : Nat} {v u : Value} {l rl m sl : List Ms} {A B : Option Addr} {c d n1 n2 n1' n2' : Nat} (H : Tw b wb wr room t7 t9 g v l A c rl h u m B d sl n1 n2) (h1 : n1 ≤ n1') (h2 : n2 ≤ n2') : Tw b wb wr room t7 t9 g v l A c rl h u m B d sl n1' n2' :=
  ⟨H.one, H.two, H.apart, H.below, H.b7, H.b9, H.ne, H.le7, H.le9, Nat.le_trans H.l1 h1, Nat.le_trans H.l2 h2⟩

/-- The same, what it holds left open. -/
def TwEx (b : Nat) (wb wr : World) (room : Int) (t7 t9 g h n1 n2 : Nat) : Prop := ∃ v l A c rl u m B d sl, Tw b wb wr room t7 t9 g v l A c rl h u m B d sl n1 n2

/-- Behind run: a net that agrees, the reference's net in its box. -/
def Cn (b : Nat) (wb wx : World) (room : Int) (g t7 n : Nat) : Prop :=
  ∃ v A c l rl, Good b wx g v room l (.slice A rl.length c) rl ∧ l.length ≤ n ∧ Below b wb wx ∧ Blk wx t7 28 #[.int .i64 room, .slice A rl.length c] ∧ b ≤ t7

theorem size_ex {b : Nat} {wb W : World} (h : Below b wb W) (hb : b ≤ wb.heap.size) : ∃ t, t = W.heap.size ∧ b ≤ t := ⟨_, rfl, Nat.le_trans hb h.size⟩
theorem blk_new_of {b : Nat} {wb W : World} (_ : Below b wb W) (t : TypeId) (cs : Array Value) : Blk (W.alloc (.cells cs t)) W.heap.size t cs := Blk.new W t cs
theorem cell_alloc_of {W : World} {p : Addr} {v : Value} (h : W.cell? p = some v) (o : Obj) : (W.alloc o).cell? p = some v := (World.cell?_alloc_lt W o _ (block_lt h)).trans h
theorem cn_of {b : Nat} {wb W : World} {g t7 n : Nat} {v : Value} {room : Int} {l rl : List Ms} {A : Option Addr} {c : Nat} (hG : Good b W g v room l (.slice A rl.length c) rl) (hB : Blk W t7 28 #[.int .i64 0, .slice none 0 0]) (hb : Below b wb W) (hl : l.length ≤ n) (ht : b ≤ t7) :
    Cn b wb ((W.setCell ⟨t7, 0, none⟩ (.int .i64 room)).setCell ⟨t7, 1, none⟩ (.slice A rl.length c)) room g t7 n := by
  refine ⟨v, A, c, l, rl, (hG.box (p := ⟨t7, 0, none⟩) hB (by decide) (by decide) (by decide) (by decide) ht _).box (p := ⟨t7, 1, none⟩) (hB.set_ 0 _) (by decide) (by decide) (by decide) (by decide) ht _, hl, (hb.setCell (p := ⟨t7, 0, none⟩) ht _).setCell (p := ⟨t7, 1, none⟩) ht _, ?_, ht⟩
  have := (hB.set_ 0 (.int .i64 room)).set_ 1 (.slice A rl.length c)
  simpa using this

set_option linter.unusedSimpArgs false in
set_option maxRecDepth 100000 in
set_option maxHeartbeats 800000 in
theorem clones_walk (room : Int) (y : Wy) (w : World) (hy : y.Fine w) :
    Calls Try.prog 8 #[.int .i64 room, .agg #[.slice y.A1 y.o1.length y.c1, .slice y.A2 y.o2.length y.c2, .slice y.A3 y.o3.length y.c3]] w fun e w' => e = .returned (.bool true) ∧ Below w.heap.size w w' := by
  obtain ⟨A1, c1, o1, A2, c2, o2, A3, c3, o3⟩ := y
  obtain ⟨hS1, hS2, hS3⟩ := hy
  change Script w A1 o1 at hS1
  change Script w A2 o2 at hS2
  change Script w A3 o3 at hS3
  have HBX := Lib.hid (Blk.new w 56 #[.slice A1 o1.length c1, .slice A2 o2.length c2, .slice A3 o3.length c3])
  have hB0 := (Below.refl w.heap.size w).alloc (Nat.le_refl _) (.cells #[.slice A1 o1.length c1, .slice A2 o2.length c2, .slice A3 o3.length c3] 56)
  have HB0 := Lib.hid hB0
  have h1n := hS1.len
  have h2n := hS2.len
  have h3n := hS3.len
  have HS1 := Lib.hid (hS1.below hB0)
  have HS2 := Lib.hid (hS2.below hB0)
  have HS3 := Lib.hid (hS3.below hB0)
  clear hS1 hS2 hS3 hB0
  go_enter Try.func8, Try.ntmps8
  go_wp2_with fail
  refine (begun room _).mono ?_
  rintro e w1 ⟨g, rfl, hO, hB⟩
  have hz0 : (w.alloc (.cells #[.slice A1 o1.length c1, .slice A2 o2.length c2, .slice A3 o3.length c3] 56)).heap.size = w.heap.size + 1 := by simp
  obtain ⟨wb, hwb⟩ : ∃ wb, wb = w.alloc (.cells #[.slice A1 o1.length c1, .slice A2 o2.length c2, .slice A3 o3.length c3] 56) := ⟨_, rfl⟩
  rw [← hwb] at hO hB HS1 HS2 HS3 HBX HB0 hz0
  have HO := Lib.hid hO
  have HB := Lib.hid hB
  clear hO hB hwb
  go_upto_region 4 with fail
  go_cut [5, 6, 7] (fun v5 v6 v7 wx => ∃ g3 t7 : Nat, v5 = .pointer (some ⟨g3, 0, none⟩) ∧ v6 = .bool true ∧ v7 = .pointer (some ⟨t7, 0, none⟩) ∧ Hid (Cn wb.heap.size wb wx (max room 0) g3 t7 o1.length))
  case first =>
    go_wp2_with fail
    have HBB : Hid (Below wb.heap.size wb w1.drew) := HB.out.drew
    have HBX1 : Hid (Below w1.heap.size w1 w1.drew) := (Below.refl _ _).drew
    have hS0 : w1.drew.cell? ⟨w.heap.size, 0, none⟩ = some (.slice A1 o1.length c1) := ((HBX.out.below HBB.out).cell 0).trans rfl

    refine wp_region_held_drew (S := fun w' => w'.cell? ⟨w.heap.size, 0, none⟩ = some (.slice A1 o1.length c1)) (by kernel_rfl) hS0 (fun hHeld => ?_)
    obtain ⟨W0, hW0⟩ : ∃ W0, W0 = w1.drew := ⟨_, rfl⟩
    rw [← hW0] at HBB HBX1 hS0 hHeld ⊢
    clear hW0
    refine wpAnyH_take (i := 0) (v := ?_) rfl (by kernel_rfl) (by kernel_rfl) (by kernel_rfl) (fun _ _ _ h => h) (Or.inl ⟨by rfl, ?_⟩) hS0 ?_
    rotate_left
    · intro w hSw; first | (go_simp; done) | (go_simp; with_reducible rfl)
    try simp only [List.getElem_toArray, List.getElem_cons_zero, List.getElem_cons_succ, Act.put, List.setIfInBounds_toArray, List.set_cons_zero, List.set_cons_succ]
    refine wpAnyH_take (i := 1) (v := ?_) rfl (by kernel_rfl) (by kernel_rfl) (by kernel_rfl) (fun _ _ _ h => h) (Or.inl ⟨by rfl, ?_⟩) hS0 ?_
    rotate_left
    · intro w hSw; first | (go_simp; done) | (go_simp; with_reducible rfl)
    try simp only [List.getElem_toArray, List.getElem_cons_zero, List.getElem_cons_succ, Act.put, List.setIfInBounds_toArray, List.set_cons_zero, List.set_cons_succ]
    refine wpAnyH_take (i := 3) (v := ?_) rfl (by kernel_rfl) (by kernel_rfl) (by kernel_rfl) (fun _ _ _ h => h) (Or.inl ⟨by rfl, ?_⟩) hS0 ?_
    rotate_left
    · intro w hSw; first | (go_simp; done) | (go_simp; with_reducible rfl)
    try simp only [List.getElem_toArray, List.getElem_cons_zero, List.getElem_cons_succ, Act.put, List.setIfInBounds_toArray, List.set_cons_zero, List.set_cons_succ]
    refine wpAnyH_take (i := 4) (v := ?_) rfl (by kernel_rfl) (by kernel_rfl) (by kernel_rfl) (fun _ _ _ h => h) (Or.inl ⟨by rfl, ?_⟩) hS0 ?_
    rotate_left
    · intro w hSw; first | (go_simp; done) | (go_simp; with_reducible rfl)
    try simp only [List.getElem_toArray, List.getElem_cons_zero, List.getElem_cons_succ, Act.put, List.setIfInBounds_toArray, List.set_cons_zero, List.set_cons_succ]
    refine wpAnyH_ready (rs := [2, 10]) (by kernel_rfl) (by simp) ?_
    refine AllReadyH.cons rfl (fun K hK => ?_) (AllReadyH.cons rfl (fun K hK => ?_) AllReadyH.nil)
    · skip
      try simp only [List.getElem_toArray, List.getElem_cons_zero, List.getElem_cons_succ]
      go_simp
      refine (ref_new room _).mono ?_
      rintro e wn ⟨rfl, hbn⟩
      have HBB := Lib.hid (HBB.out.trans (hbn.mono HBB.out.size))
      have HBX1 := Lib.hid (HBX1.out.trans (hbn.mono HBX1.out.size))
      try have HB7 := Lib.hid (HB7.out.below hbn)
      have hS0 : wn.cell? ⟨w.heap.size, 0, none⟩ = some (.slice A1 o1.length c1) := ((HBX.out.below HBB.out).cell 0).trans rfl
      clear hbn
      try (go_wp2_with fail)
      refine hK.out _ _ hS0 (fun hHeld => ?_)
      clear hK K
      try simp only [List.getElem_toArray, List.getElem_cons_zero, List.getElem_cons_succ, Act.put, List.setIfInBounds_toArray, List.set_cons_zero, List.set_cons_succ]
      refine wpAnyH_ready (rs := [5, 10]) (by kernel_rfl) (by simp) ?_
      refine AllReadyH.cons rfl (fun K hK => ?_) (AllReadyH.cons rfl (fun K hK => ?_) AllReadyH.nil)
      · skip
        try simp only [List.getElem_toArray, List.getElem_cons_zero, List.getElem_cons_succ]
        go_simp
        refine (run_new wb w1 _ g room A1 c1 o1 HO.out HB.out HBX1.out HS1.out).mono ?_
        rintro e wn ⟨g3, v3, A4, c4, l3, rl3, rfl, hG, hl, hk, hf⟩
        try have HB7 := Lib.hid (Own.blk (b := wb.heap.size) ⟨HO.out.net.below HBX1.out, HO.out.hg, HO.out.hv⟩ HB7.out hk (by decide) (by decide))
        have HBB := Lib.hid (hk.out HBB.out (fun k h => HO.out.nb k h) HBB.out.size)
        have HG := Lib.hid hG
        have hl3 : l3.length ≤ o1.length := by simpa using hl
        have hS0 : wn.cell? ⟨w.heap.size, 0, none⟩ = some (.slice A1 o1.length c1) := ((HBX.out.below HBB.out).cell 0).trans rfl
        try have c70 : wn.cell? ⟨t7, 0, none⟩ = some (.int .i64 0) := (HB7.out.cell 0).trans rfl
        try have c71 : wn.cell? ⟨t7, 1, none⟩ = some (.slice none 0 0) := (HB7.out.cell 1).trans rfl
        try have f70 := HB7.out.frozen 0
        try have f71 := HB7.out.frozen 1
        clear hG hl hk hf
        try (go_wp2_with fail)
        refine hK.out _ _ hS0 (fun hHeld => ?_)
        clear hK K
        try simp only [List.getElem_toArray, List.getElem_cons_zero, List.getElem_cons_succ, Act.put, List.setIfInBounds_toArray, List.set_cons_zero, List.set_cons_succ]
        refine wpAnyH_take (i := 6) (v := ?_) rfl (by kernel_rfl) (by kernel_rfl) (by kernel_rfl) (fun _ _ _ h => h) (Or.inl ⟨by rfl, ?_⟩) hS0 ?_
        rotate_left
        · intro w hSw; first | (go_simp; done) | (go_simp; with_reducible rfl)
        try simp only [List.getElem_toArray, List.getElem_cons_zero, List.getElem_cons_succ, Act.put, List.setIfInBounds_toArray, List.set_cons_zero, List.set_cons_succ]
        refine wpAnyH_take (i := 7) (v := ?_) rfl (by kernel_rfl) (by kernel_rfl) (by kernel_rfl) (fun _ _ _ h => h) (Or.inl ⟨by rfl, ?_⟩) hS0 ?_
        rotate_left
        · intro w hSw; first | (go_simp; done) | (go_simp; with_reducible rfl)
        try simp only [List.getElem_toArray, List.getElem_cons_zero, List.getElem_cons_succ, Act.put, List.setIfInBounds_toArray, List.set_cons_zero, List.set_cons_succ]
        refine wpAnyH_take (i := 8) (v := ?_) rfl (by kernel_rfl) (by kernel_rfl) (by kernel_rfl) (fun _ _ _ h => h) (Or.inl ⟨by rfl, ?_⟩) hS0 ?_
        rotate_left
        · intro w hSw; first | (go_simp; done) | (go_simp; with_reducible rfl)
        try simp only [List.getElem_toArray, List.getElem_cons_zero, List.getElem_cons_succ, Act.put, List.setIfInBounds_toArray, List.set_cons_zero, List.set_cons_succ]
        refine wpAnyH_take (i := 9) (v := ?_) rfl (by kernel_rfl) (by kernel_rfl) (by kernel_rfl) (fun _ _ _ h => h) (Or.inl ⟨by rfl, ?_⟩) hS0 ?_
        rotate_left
        · intro w hSw; first | (go_simp; done) | (go_simp; with_reducible rfl)
        try simp only [List.getElem_toArray, List.getElem_cons_zero, List.getElem_cons_succ, Act.put, List.setIfInBounds_toArray, List.set_cons_zero, List.set_cons_succ]
        refine wpAnyH_ready (rs := [10]) (by kernel_rfl) (by simp) ?_
        refine AllReadyH.cons rfl (fun K hK => ?_) AllReadyH.nil
        try simp only [List.getElem_toArray, List.getElem_cons_zero, List.getElem_cons_succ]
        go_simp
        obtain ⟨t7, ht7, hbt7⟩ := size_ex HBB.out (Nat.le_refl _)
        have HB7 := Lib.hid (blk_new_of HBB.out 28 #[.int .i64 0, .slice none 0 0])
        try have HG := Lib.hid (HG.out.below ((Below.refl _ _).alloc (Nat.le_refl _) (.cells #[.int .i64 0, .slice none 0 0] 28)))
        have HBX1 := Lib.hid (HBX1.out.alloc HBX1.out.size (.cells #[.int .i64 0, .slice none 0 0] 28))
        have HBB := Lib.hid (HBB.out.alloc HBB.out.size (.cells #[.int .i64 0, .slice none 0 0] 28))
        have hS0 := cell_alloc_of hS0 (.cells #[.int .i64 0, .slice none 0 0] 28)
        rw [← ht7] at HB7 ⊢
        clear ht7
        have c70 : _ = some (Value.int .i64 0) := (HB7.out.cell 0).trans rfl
        have c71 : _ = some (Value.slice none 0 0) := (HB7.out.cell 1).trans rfl
        have f70 := HB7.out.frozen 0
        have f71 := HB7.out.frozen 1
        try (go_wp2_with fail)
        refine hK.out _ _ hS0 (fun hHeld => ?_)
        clear hK K
        try simp only [List.getElem_toArray, List.getElem_cons_zero, List.getElem_cons_succ, Act.put, List.setIfInBounds_toArray, List.set_cons_zero, List.set_cons_succ]
        refine wpAnyH_take (i := 11) (v := ?_) rfl (by kernel_rfl) (by kernel_rfl) (by kernel_rfl) (fun _ _ _ h => h) (Or.inl ⟨by rfl, ?_⟩) hS0 ?_
        rotate_left
        · intro w hSw; first | (go_simp; done) | (go_simp; with_reducible rfl)
        try simp only [List.getElem_toArray, List.getElem_cons_zero, List.getElem_cons_succ, Act.put, List.setIfInBounds_toArray, List.set_cons_zero, List.set_cons_succ]
        refine wpAnyH_ready (rs := [12]) (by kernel_rfl) (by simp) ?_
        refine AllReadyH.cons rfl (fun K hK => ?_) AllReadyH.nil
        try simp only [List.getElem_toArray, List.getElem_cons_zero, List.getElem_cons_succ]
        go_simp
        have hS9 := box_set hS0 (show w.heap.size ≠ t7 by omega) (.int .i64 (max room 0)) (.slice A4 rl3.length c4)
        try (go_wp2_with fail)
        refine hK.out _ _ hS9 (fun hHeld => ?_)
        clear hK K
        try simp only [List.getElem_toArray, List.getElem_cons_zero, List.getElem_cons_succ, Act.put, List.setIfInBounds_toArray, List.set_cons_zero, List.set_cons_succ]
        refine wpAnyH_take (i := 13) (v := ?_) rfl (by kernel_rfl) (by kernel_rfl) (by kernel_rfl) (fun _ _ _ h => h) (Or.inl ⟨by rfl, ?_⟩) hS9 ?_
        rotate_left
        · intro w hSw; first | (go_simp; done) | (go_simp; with_reducible rfl)
        try simp only [List.getElem_toArray, List.getElem_cons_zero, List.getElem_cons_succ, Act.put, List.setIfInBounds_toArray, List.set_cons_zero, List.set_cons_succ]
        refine wpAnyH_done (by kernel_rfl) ?_ _
        (go_wp2_with fail; go_meet; exact ⟨g3, t7, rfl, rfl, rfl, cn_of HG.out HB7.out HBB.out hl3 hbt7⟩)
      · skip
        try simp only [List.getElem_toArray, List.getElem_cons_zero, List.getElem_cons_succ]
        go_simp
        obtain ⟨t7, ht7, hbt7⟩ := size_ex HBB.out (Nat.le_refl _)
        have HB7 := Lib.hid (blk_new_of HBB.out 28 #[.int .i64 0, .slice none 0 0])
        try have HG := Lib.hid (HG.out.below ((Below.refl _ _).alloc (Nat.le_refl _) (.cells #[.int .i64 0, .slice none 0 0] 28)))
        have HBX1 := Lib.hid (HBX1.out.alloc HBX1.out.size (.cells #[.int .i64 0, .slice none 0 0] 28))
        have HBB := Lib.hid (HBB.out.alloc HBB.out.size (.cells #[.int .i64 0, .slice none 0 0] 28))
        have hS0 := cell_alloc_of hS0 (.cells #[.int .i64 0, .slice none 0 0] 28)
        rw [← ht7] at HB7 ⊢
        clear ht7
        have c70 : _ = some (Value.int .i64 0) := (HB7.out.cell 0).trans rfl
        have c71 : _ = some (Value.slice none 0 0) := (HB7.out.cell 1).trans rfl
        have f70 := HB7.out.frozen 0
        have f71 := HB7.out.frozen 1
        try (go_wp2_with fail)
        refine hK.out _ _ hS0 (fun hHeld => ?_)
        clear hK K
        try simp only [List.getElem_toArray, List.getElem_cons_zero, List.getElem_cons_succ, Act.put, List.setIfInBounds_toArray, List.set_cons_zero, List.set_cons_succ]
        refine wpAnyH_ready (rs := [5]) (by kernel_rfl) (by simp) ?_
        refine AllReadyH.cons rfl (fun K hK => ?_) AllReadyH.nil
        try simp only [List.getElem_toArray, List.getElem_cons_zero, List.getElem_cons_succ]
        go_simp
        refine (run_new wb w1 _ g room A1 c1 o1 HO.out HB.out HBX1.out HS1.out).mono ?_
        rintro e wn ⟨g3, v3, A4, c4, l3, rl3, rfl, hG, hl, hk, hf⟩
        try have HB7 := Lib.hid (Own.blk (b := wb.heap.size) ⟨HO.out.net.below HBX1.out, HO.out.hg, HO.out.hv⟩ HB7.out hk (by decide) (by decide))
        have HBB := Lib.hid (hk.out HBB.out (fun k h => HO.out.nb k h) HBB.out.size)
        have HG := Lib.hid hG
        have hl3 : l3.length ≤ o1.length := by simpa using hl
        have hS0 : wn.cell? ⟨w.heap.size, 0, none⟩ = some (.slice A1 o1.length c1) := ((HBX.out.below HBB.out).cell 0).trans rfl
        try have c70 : wn.cell? ⟨t7, 0, none⟩ = some (.int .i64 0) := (HB7.out.cell 0).trans rfl
        try have c71 : wn.cell? ⟨t7, 1, none⟩ = some (.slice none 0 0) := (HB7.out.cell 1).trans rfl
        try have f70 := HB7.out.frozen 0
        try have f71 := HB7.out.frozen 1
        clear hG hl hk hf
        try (go_wp2_with fail)
        refine hK.out _ _ hS0 (fun hHeld => ?_)
        clear hK K
        try simp only [List.getElem_toArray, List.getElem_cons_zero, List.getElem_cons_succ, Act.put, List.setIfInBounds_toArray, List.set_cons_zero, List.set_cons_succ]
        refine wpAnyH_take (i := 6) (v := ?_) rfl (by kernel_rfl) (by kernel_rfl) (by kernel_rfl) (fun _ _ _ h => h) (Or.inl ⟨by rfl, ?_⟩) hS0 ?_
        rotate_left
        · intro w hSw; first | (go_simp; done) | (go_simp; with_reducible rfl)
        try simp only [List.getElem_toArray, List.getElem_cons_zero, List.getElem_cons_succ, Act.put, List.setIfInBounds_toArray, List.set_cons_zero, List.set_cons_succ]
        refine wpAnyH_take (i := 7) (v := ?_) rfl (by kernel_rfl) (by kernel_rfl) (by kernel_rfl) (fun _ _ _ h => h) (Or.inl ⟨by rfl, ?_⟩) hS0 ?_
        rotate_left
        · intro w hSw; first | (go_simp; done) | (go_simp; with_reducible rfl)
        try simp only [List.getElem_toArray, List.getElem_cons_zero, List.getElem_cons_succ, Act.put, List.setIfInBounds_toArray, List.set_cons_zero, List.set_cons_succ]
        refine wpAnyH_take (i := 8) (v := ?_) rfl (by kernel_rfl) (by kernel_rfl) (by kernel_rfl) (fun _ _ _ h => h) (Or.inl ⟨by rfl, ?_⟩) hS0 ?_
        rotate_left
        · intro w hSw; first | (go_simp; done) | (go_simp; with_reducible rfl)
        try simp only [List.getElem_toArray, List.getElem_cons_zero, List.getElem_cons_succ, Act.put, List.setIfInBounds_toArray, List.set_cons_zero, List.set_cons_succ]
        refine wpAnyH_take (i := 9) (v := ?_) rfl (by kernel_rfl) (by kernel_rfl) (by kernel_rfl) (fun _ _ _ h => h) (Or.inl ⟨by rfl, ?_⟩) hS0 ?_
        rotate_left
        · intro w hSw; first | (go_simp; done) | (go_simp; with_reducible rfl)
        try simp only [List.getElem_toArray, List.getElem_cons_zero, List.getElem_cons_succ, Act.put, List.setIfInBounds_toArray, List.set_cons_zero, List.set_cons_succ]
        refine wpAnyH_take (i := 11) (v := ?_) rfl (by kernel_rfl) (by kernel_rfl) (by kernel_rfl) (fun _ _ _ h => h) (Or.inl ⟨by rfl, ?_⟩) hS0 ?_
        rotate_left
        · intro w hSw; first | (go_simp; done) | (go_simp; with_reducible rfl)
        try simp only [List.getElem_toArray, List.getElem_cons_zero, List.getElem_cons_succ, Act.put, List.setIfInBounds_toArray, List.set_cons_zero, List.set_cons_succ]
        refine wpAnyH_ready (rs := [12]) (by kernel_rfl) (by simp) ?_
        refine AllReadyH.cons rfl (fun K hK => ?_) AllReadyH.nil
        try simp only [List.getElem_toArray, List.getElem_cons_zero, List.getElem_cons_succ]
        go_simp
        have hS9 := box_set hS0 (show w.heap.size ≠ t7 by omega) (.int .i64 (max room 0)) (.slice A4 rl3.length c4)
        try (go_wp2_with fail)
        refine hK.out _ _ hS9 (fun hHeld => ?_)
        clear hK K
        try simp only [List.getElem_toArray, List.getElem_cons_zero, List.getElem_cons_succ, Act.put, List.setIfInBounds_toArray, List.set_cons_zero, List.set_cons_succ]
        refine wpAnyH_take (i := 13) (v := ?_) rfl (by kernel_rfl) (by kernel_rfl) (by kernel_rfl) (fun _ _ _ h => h) (Or.inl ⟨by rfl, ?_⟩) hS9 ?_
        rotate_left
        · intro w hSw; first | (go_simp; done) | (go_simp; with_reducible rfl)
        try simp only [List.getElem_toArray, List.getElem_cons_zero, List.getElem_cons_succ, Act.put, List.setIfInBounds_toArray, List.set_cons_zero, List.set_cons_succ]
        refine wpAnyH_done (by kernel_rfl) ?_ _
        (go_wp2_with fail; go_meet; exact ⟨g3, t7, rfl, rfl, rfl, cn_of HG.out HB7.out HBB.out hl3 hbt7⟩)
    · skip
      try simp only [List.getElem_toArray, List.getElem_cons_zero, List.getElem_cons_succ]
      go_simp
      obtain ⟨t7, ht7, hbt7⟩ := size_ex HBB.out (Nat.le_refl _)
      have HB7 := Lib.hid (blk_new_of HBB.out 28 #[.int .i64 0, .slice none 0 0])
      try have HG := Lib.hid (HG.out.below ((Below.refl _ _).alloc (Nat.le_refl _) (.cells #[.int .i64 0, .slice none 0 0] 28)))
      have HBX1 := Lib.hid (HBX1.out.alloc HBX1.out.size (.cells #[.int .i64 0, .slice none 0 0] 28))
      have HBB := Lib.hid (HBB.out.alloc HBB.out.size (.cells #[.int .i64 0, .slice none 0 0] 28))
      have hS0 := cell_alloc_of hS0 (.cells #[.int .i64 0, .slice none 0 0] 28)
      rw [← ht7] at HB7 ⊢
      clear ht7
      have c70 : _ = some (Value.int .i64 0) := (HB7.out.cell 0).trans rfl
      have c71 : _ = some (Value.slice none 0 0) := (HB7.out.cell 1).trans rfl
      have f70 := HB7.out.frozen 0
      have f71 := HB7.out.frozen 1
      try (go_wp2_with fail)
      refine hK.out _ _ hS0 (fun hHeld => ?_)
      clear hK K
      try simp only [List.getElem_toArray, List.getElem_cons_zero, List.getElem_cons_succ, Act.put, List.setIfInBounds_toArray, List.set_cons_zero, List.set_cons_succ]
      refine wpAnyH_ready (rs := [2]) (by kernel_rfl) (by simp) ?_
      refine AllReadyH.cons rfl (fun K hK => ?_) AllReadyH.nil
      try simp only [List.getElem_toArray, List.getElem_cons_zero, List.getElem_cons_succ]
      go_simp
      refine (ref_new room _).mono ?_
      rintro e wn ⟨rfl, hbn⟩
      have HBB := Lib.hid (HBB.out.trans (hbn.mono HBB.out.size))
      have HBX1 := Lib.hid (HBX1.out.trans (hbn.mono HBX1.out.size))
      try have HB7 := Lib.hid (HB7.out.below hbn)
      have hS0 : wn.cell? ⟨w.heap.size, 0, none⟩ = some (.slice A1 o1.length c1) := ((HBX.out.below HBB.out).cell 0).trans rfl
      clear hbn
      try (go_wp2_with fail)
      refine hK.out _ _ hS0 (fun hHeld => ?_)
      clear hK K
      try simp only [List.getElem_toArray, List.getElem_cons_zero, List.getElem_cons_succ, Act.put, List.setIfInBounds_toArray, List.set_cons_zero, List.set_cons_succ]
      refine wpAnyH_ready (rs := [5]) (by kernel_rfl) (by simp) ?_
      refine AllReadyH.cons rfl (fun K hK => ?_) AllReadyH.nil
      try simp only [List.getElem_toArray, List.getElem_cons_zero, List.getElem_cons_succ]
      go_simp
      refine (run_new wb w1 _ g room A1 c1 o1 HO.out HB.out HBX1.out HS1.out).mono ?_
      rintro e wn ⟨g3, v3, A4, c4, l3, rl3, rfl, hG, hl, hk, hf⟩
      try have HB7 := Lib.hid (Own.blk (b := wb.heap.size) ⟨HO.out.net.below HBX1.out, HO.out.hg, HO.out.hv⟩ HB7.out hk (by decide) (by decide))
      have HBB := Lib.hid (hk.out HBB.out (fun k h => HO.out.nb k h) HBB.out.size)
      have HG := Lib.hid hG
      have hl3 : l3.length ≤ o1.length := by simpa using hl
      have hS0 : wn.cell? ⟨w.heap.size, 0, none⟩ = some (.slice A1 o1.length c1) := ((HBX.out.below HBB.out).cell 0).trans rfl
      try have c70 : wn.cell? ⟨t7, 0, none⟩ = some (.int .i64 0) := (HB7.out.cell 0).trans rfl
      try have c71 : wn.cell? ⟨t7, 1, none⟩ = some (.slice none 0 0) := (HB7.out.cell 1).trans rfl
      try have f70 := HB7.out.frozen 0
      try have f71 := HB7.out.frozen 1
      clear hG hl hk hf
      try (go_wp2_with fail)
      refine hK.out _ _ hS0 (fun hHeld => ?_)
      clear hK K
      try simp only [List.getElem_toArray, List.getElem_cons_zero, List.getElem_cons_succ, Act.put, List.setIfInBounds_toArray, List.set_cons_zero, List.set_cons_succ]
      refine wpAnyH_take (i := 6) (v := ?_) rfl (by kernel_rfl) (by kernel_rfl) (by kernel_rfl) (fun _ _ _ h => h) (Or.inl ⟨by rfl, ?_⟩) hS0 ?_
      rotate_left
      · intro w hSw; first | (go_simp; done) | (go_simp; with_reducible rfl)
      try simp only [List.getElem_toArray, List.getElem_cons_zero, List.getElem_cons_succ, Act.put, List.setIfInBounds_toArray, List.set_cons_zero, List.set_cons_succ]
      refine wpAnyH_take (i := 7) (v := ?_) rfl (by kernel_rfl) (by kernel_rfl) (by kernel_rfl) (fun _ _ _ h => h) (Or.inl ⟨by rfl, ?_⟩) hS0 ?_
      rotate_left
      · intro w hSw; first | (go_simp; done) | (go_simp; with_reducible rfl)
      try simp only [List.getElem_toArray, List.getElem_cons_zero, List.getElem_cons_succ, Act.put, List.setIfInBounds_toArray, List.set_cons_zero, List.set_cons_succ]
      refine wpAnyH_take (i := 8) (v := ?_) rfl (by kernel_rfl) (by kernel_rfl) (by kernel_rfl) (fun _ _ _ h => h) (Or.inl ⟨by rfl, ?_⟩) hS0 ?_
      rotate_left
      · intro w hSw; first | (go_simp; done) | (go_simp; with_reducible rfl)
      try simp only [List.getElem_toArray, List.getElem_cons_zero, List.getElem_cons_succ, Act.put, List.setIfInBounds_toArray, List.set_cons_zero, List.set_cons_succ]
      refine wpAnyH_take (i := 9) (v := ?_) rfl (by kernel_rfl) (by kernel_rfl) (by kernel_rfl) (fun _ _ _ h => h) (Or.inl ⟨by rfl, ?_⟩) hS0 ?_
      rotate_left
      · intro w hSw; first | (go_simp; done) | (go_simp; with_reducible rfl)
      try simp only [List.getElem_toArray, List.getElem_cons_zero, List.getElem_cons_succ, Act.put, List.setIfInBounds_toArray, List.set_cons_zero, List.set_cons_succ]
      refine wpAnyH_take (i := 11) (v := ?_) rfl (by kernel_rfl) (by kernel_rfl) (by kernel_rfl) (fun _ _ _ h => h) (Or.inl ⟨by rfl, ?_⟩) hS0 ?_
      rotate_left
      · intro w hSw; first | (go_simp; done) | (go_simp; with_reducible rfl)
      try simp only [List.getElem_toArray, List.getElem_cons_zero, List.getElem_cons_succ, Act.put, List.setIfInBounds_toArray, List.set_cons_zero, List.set_cons_succ]
      refine wpAnyH_ready (rs := [12]) (by kernel_rfl) (by simp) ?_
      refine AllReadyH.cons rfl (fun K hK => ?_) AllReadyH.nil
      try simp only [List.getElem_toArray, List.getElem_cons_zero, List.getElem_cons_succ]
      go_simp
      have hS9 := box_set hS0 (show w.heap.size ≠ t7 by omega) (.int .i64 (max room 0)) (.slice A4 rl3.length c4)
      try (go_wp2_with fail)
      refine hK.out _ _ hS9 (fun hHeld => ?_)
      clear hK K
      try simp only [List.getElem_toArray, List.getElem_cons_zero, List.getElem_cons_succ, Act.put, List.setIfInBounds_toArray, List.set_cons_zero, List.set_cons_succ]
      refine wpAnyH_take (i := 13) (v := ?_) rfl (by kernel_rfl) (by kernel_rfl) (by kernel_rfl) (fun _ _ _ h => h) (Or.inl ⟨by rfl, ?_⟩) hS9 ?_
      rotate_left
      · intro w hSw; first | (go_simp; done) | (go_simp; with_reducible rfl)
      try simp only [List.getElem_toArray, List.getElem_cons_zero, List.getElem_cons_succ, Act.put, List.setIfInBounds_toArray, List.set_cons_zero, List.set_cons_succ]
      refine wpAnyH_done (by kernel_rfl) ?_ _
      (go_wp2_with fail; go_meet; exact ⟨g3, t7, rfl, rfl, rfl, cn_of HG.out HB7.out HBB.out hl3 hbt7⟩)

  case rest =>
    obtain ⟨g3, t7, rfl, rfl, rfl, HC⟩ := hcut
    obtain ⟨v3, A4, c4, l3, rl3, hG3, hl3, hb3, hB7, ht7⟩ := HC.out
    have HG3 := Lib.hid hG3
    have HB3 := Lib.hid hb3
    have HB7 := Lib.hid hB7
    clear HC hG3 hb3 hB7 HO HB HS1
    go_wp2_with fail
    refine (clone_net wc g3 v3 (max room 0) l3 HG3.out.own.net (by omega)).mono ?_
    rintro e w4 ⟨g4, v4, rfl, hN4, hbel, hg4, hv4⟩
    have hsz3 := HG3.out.size
    have HG4 : Hid (Good wb.heap.size w4 g3 v3 (max room 0) l3 (.slice A4 rl3.length c4) rl3) := HG3.out.below hbel
    have HH4 : Hid (Good wb.heap.size w4 g4 v4 (max room 0) l3 (.slice A4 rl3.length c4) rl3) := ⟨⟨hN4, by omega, fun k e => by have := hv4 k e; omega⟩, HG3.out.rf.below hbel, HG3.out.same, HG3.out.short, HG3.out.le, by have := hbel.size; omega⟩
    have HAP : Hid (∀ k, Nb g3 v3 k → ¬ Nb g4 v4 k) := by
      intro k h1 h2
      have h3 := HG3.out.own.nb_lt k h1
      rcases h2 with rfl | e
      · omega
      · have := hv4 k e; omega
    have HB74 := Lib.hid (HB7.out.below hbel)
    have HB4 : Hid (Below wb.heap.size wb w4) := HB3.out.trans (hbel.mono hsz3)
    have d0 : w4.cell? ⟨t7, 0, none⟩ = some (.int .i64 (max room 0)) := (HB74.out.cell 0).trans rfl
    have d1 : w4.cell? ⟨t7, 1, none⟩ = some (.slice A4 rl3.length c4) := (HB74.out.cell 1).trans rfl
    clear hN4 hbel hv4 HG3 HB7 HB3
    go_wp2_with fail
    have hba : Below w4.heap.size w4 (w4.alloc (.cells #[.int .i64 (max room 0), .slice A4 rl3.length c4] 28)) := (Below.refl _ _).alloc (Nat.le_refl _) _
    have HT0 : Hid (TwEx wb.heap.size wb (w4.alloc (.cells #[.int .i64 (max room 0), .slice A4 rl3.length c4] 28)) (max room 0) t7 w4.heap.size g3 g4 (o1.length + 0) (o1.length + 0)) :=
      ⟨v3, l3, A4, c4, rl3, v4, l3, A4, c4, rl3, HG4.out.below hba, HH4.out.below hba, HAP.out, HB4.out.trans (hba.mono HG4.out.size), HB74.out.below hba, Blk.new w4 28 _, by have := HB74.out.lt; omega, ht7, HG4.out.size, hl3, hl3⟩
    obtain ⟨t9, ht9⟩ : ∃ t9, t9 = w4.heap.size := ⟨_, rfl⟩
    rw [← ht9] at HT0 ⊢
    clear hba ht9 HG4 HH4 HAP HB74 HB4 d0 d1
    go_loopw [5, 6, 8, 10] (fun v5 _ v8 v10 wr => ∃ k ga gb : Nat, v5 = .pointer (some ⟨ga, 0, none⟩) ∧ v8 = .pointer (some ⟨gb, 0, none⟩) ∧ v10 = .int .i64 k ∧ k ≤ o2.length + o3.length ∧ Hid (TwEx wb.heap.size wb wr (max room 0) t7 t9 ga gb (o1.length + min k o2.length) (o1.length + min k o3.length))) (fun _ _ _ v10 _ => o2.length + o3.length - (intOf v10).toNat)
    case atStart => exact ⟨0, g3, g4, rfl, rfl, rfl, Nat.zero_le _, by simpa using HT0⟩
    case round =>
      obtain ⟨k, ga, gb, rfl, rfl, rfl, hk, HT⟩ := hrel
      clear HT0
      obtain ⟨va, la, Aa, ca, rla, vb, lb, Ab, cb, rlb, hT⟩ := HT.out
      obtain ⟨W1, rfl⟩ : ∃ W1 : World, W1 = wr := ⟨_, rfl⟩
      have HT := Lib.hid hT
      have e1 : W1.cell? ⟨w.heap.size, 1, none⟩ = some (.slice A2 o2.length c2) := ((HBX.out.below hT.below).cell 1).trans rfl
      have e2 : W1.cell? ⟨w.heap.size, 2, none⟩ = some (.slice A3 o3.length c3) := ((HBX.out.below hT.below).cell 2).trans rfl
      clear hT
      by_cases hex : k < o2.length ∨ k < o3.length
      · have hk' : k < o2.length + o3.length := by omega
        by_cases hlt : k < o2.length
        · have z0 : W1.cell? ⟨t7, 0, none⟩ = some (.int .i64 (max room 0)) := (HT.out.b7.cell 0).trans rfl
          have z1 : W1.cell? ⟨t7, 1, none⟩ = some (.slice Aa rla.length ca) := (HT.out.b7.cell 1).trans rfl
          clear hex
          go_upto_if 53 with fail
          go_cut [5, 6] (fun v5 _ wx => ∃ ga' : Nat, v5 = .pointer (some ⟨ga', 0, none⟩) ∧ Hid (TwEx wb.heap.size wb wx (max room 0) t7 t9 ga' gb (o1.length + min (k + 1) o2.length) (o1.length + min k o3.length)))
          case first =>
            obtain ⟨⟨kind, dst, at_, cv, raw⟩, hc⟩ : ∃ c, o2[k]? = some c := ⟨_, List.getElem?_eq_getElem hlt⟩
            have hf := HS2.out.fine _ (List.mem_of_getElem? hc)
            have hsl := HS2.out.sl
            obtain ⟨bi, oi, rfl, x0⟩ := hsl.at_ (j := k * 4 + 0) (u := .int .i64 kind) (by rw [cl_at o2 k 0 _ hc (by omega)]; rfl)
            obtain ⟨b', o', e', x1⟩ := hsl.at_ (j := k * 4 + 1) (u := .int .i64 dst) (by rw [cl_at o2 k 1 _ hc (by omega)]; rfl)
            injection e' with e'
            injection e' with e1 e2
            subst e1 e2
            obtain ⟨b', o', e', x2⟩ := hsl.at_ (j := k * 4 + 2) (u := .int .i64 at_) (by rw [cl_at o2 k 2 _ hc (by omega)]; rfl)
            injection e' with e'
            injection e' with e1 e2
            subst e1 e2
            obtain ⟨b', o', e', x3⟩ := hsl.at_ (j := k * 4 + 3) (u := cv) (by rw [cl_at o2 k 3 _ hc (by omega)]; rfl)
            injection e' with e'
            injection e' with e1 e2
            subst e1 e2
            rw [Nat.add_zero] at x0
            rw [← Nat.add_assoc] at x1 x2 x3
            have hcs : Ms.Safe wb.heap.size wb ⟨dst, cv, raw⟩ := .inr ⟨hf.1, hf.2.2.2.2.2⟩
            have hrw : raw.length ≤ 140737488351232 := hf.2.1
            obtain ⟨C, cd, hv, _, _⟩ := hf.1
            change cv = .slice C raw.length cd at hv
            subst hv
            have hcells : ∀ W, Below wb.heap.size wb W → W.cell? ⟨w.heap.size, 1, none⟩ = some (.slice (some ⟨bi, oi, none⟩) o2.length c2) ∧ W.cell? ⟨bi, oi + k * 4, none⟩ = some (.int .i64 kind) ∧ W.cell? ⟨bi, oi + k * 4 + 1, none⟩ = some (.int .i64 dst) ∧
                W.cell? ⟨bi, oi + k * 4 + 2, none⟩ = some (.int .i64 at_) ∧ W.cell? ⟨bi, oi + k * 4 + 3, none⟩ = some (.slice C raw.length cd) := fun W h =>
              ⟨((HBX.out.below h).cell 1).trans rfl, (h.cell (p := ⟨bi, _, none⟩) (block_lt x0)).trans x0, (h.cell (p := ⟨bi, _, none⟩) (block_lt x1)).trans x1, (h.cell (p := ⟨bi, _, none⟩) (block_lt x2)).trans x2, (h.cell (p := ⟨bi, _, none⟩) (block_lt x3)).trans x3⟩
            have hS0 := hcells W1.drew HT.out.below.drew
            have HCS := Lib.hid (hcs.below (HT.out.below.mono (Nat.le_refl _)))
            clear hc hf hsl hcs x0 x1 x2 x3
            have hki : (k : Int) < (o2.length : Int) := by omega
            go_wp2_with fail
            refine wp_region_held_drew (S := fun w' => w'.cell? ⟨w.heap.size, 1, none⟩ = some (.slice (some ⟨bi, oi, none⟩) o2.length c2) ∧ w'.cell? ⟨bi, oi + k * 4, none⟩ = some (.int .i64 kind) ∧ w'.cell? ⟨bi, oi + k * 4 + 1, none⟩ = some (.int .i64 dst) ∧ w'.cell? ⟨bi, oi + k * 4 + 2, none⟩ = some (.int .i64 at_) ∧ w'.cell? ⟨bi, oi + k * 4 + 3, none⟩ = some (.slice C raw.length cd)) (by kernel_rfl) hS0 (fun hHeld => ?_)
            refine wpAnyH_take (i := 0) (v := ?_) rfl (by kernel_rfl) (by kernel_rfl) (by kernel_rfl) (fun _ _ _ h => h) (Or.inl ⟨by rfl, ?_⟩) hS0 ?_
            rotate_left
            · intro w hSw; obtain ⟨s0, s1, s2, s3, s4⟩ := hSw; first | (go_simp; done) | (go_simp; with_reducible rfl)
            try simp only [List.getElem_toArray, List.getElem_cons_zero, List.getElem_cons_succ, Act.put, List.setIfInBounds_toArray, List.set_cons_zero, List.set_cons_succ]
            refine wpAnyH_take (i := 2) (v := ?_) rfl (by kernel_rfl) (by kernel_rfl) (by kernel_rfl) (fun _ _ _ h => h) (Or.inl ⟨by rfl, ?_⟩) hS0 ?_
            rotate_left
            · intro w hSw; obtain ⟨s0, s1, s2, s3, s4⟩ := hSw; first | (go_simp; done) | (go_simp; with_reducible rfl)
            try simp only [List.getElem_toArray, List.getElem_cons_zero, List.getElem_cons_succ, Act.put, List.setIfInBounds_toArray, List.set_cons_zero, List.set_cons_succ]
            refine wpAnyH_take (i := 3) (v := ?_) rfl (by kernel_rfl) (by kernel_rfl) (by kernel_rfl) (fun _ _ _ h => h) (Or.inl ⟨by rfl, ?_⟩) hS0 ?_
            rotate_left
            · intro w hSw; obtain ⟨s0, s1, s2, s3, s4⟩ := hSw; first | (go_simp; done) | (go_simp; with_reducible rfl)
            try simp only [List.getElem_toArray, List.getElem_cons_zero, List.getElem_cons_succ, Act.put, List.setIfInBounds_toArray, List.set_cons_zero, List.set_cons_succ]
            refine wpAnyH_take (i := 4) (v := ?_) rfl (by kernel_rfl) (by kernel_rfl) (by kernel_rfl) (fun _ _ _ h => h) (Or.inl ⟨by rfl, ?_⟩) hS0 ?_
            rotate_left
            · intro w hSw; obtain ⟨s0, s1, s2, s3, s4⟩ := hSw; first | (go_simp; done) | (go_simp; with_reducible rfl)
            try simp only [List.getElem_toArray, List.getElem_cons_zero, List.getElem_cons_succ, Act.put, List.setIfInBounds_toArray, List.set_cons_zero, List.set_cons_succ]
            refine wpAnyH_take (i := 5) (v := ?_) rfl (by kernel_rfl) (by kernel_rfl) (by kernel_rfl) (fun _ _ _ h => h) (Or.inl ⟨by rfl, ?_⟩) hS0 ?_
            rotate_left
            · intro w hSw; obtain ⟨s0, s1, s2, s3, s4⟩ := hSw; first | (go_simp; done) | (go_simp; with_reducible rfl)
            try simp only [List.getElem_toArray, List.getElem_cons_zero, List.getElem_cons_succ, Act.put, List.setIfInBounds_toArray, List.set_cons_zero, List.set_cons_succ]
            refine wpAnyH_take (i := 6) (v := ?_) rfl (by kernel_rfl) (by kernel_rfl) (by kernel_rfl) (fun _ _ _ h => h) (Or.inl ⟨by rfl, ?_⟩) hS0 ?_
            rotate_left
            · intro w hSw; obtain ⟨s0, s1, s2, s3, s4⟩ := hSw; first | (go_simp; done) | (go_simp; with_reducible rfl)
            try simp only [List.getElem_toArray, List.getElem_cons_zero, List.getElem_cons_succ, Act.put, List.setIfInBounds_toArray, List.set_cons_zero, List.set_cons_succ]
            refine wpAnyH_ready (rs := [1]) (by kernel_rfl) (by simp) ?_
            refine AllReadyH.cons rfl (fun K hK => ?_) AllReadyH.nil
            try simp only [List.getElem_toArray, List.getElem_cons_zero, List.getElem_cons_succ]
            go_simp
            refine hK.out _ _ hS0 (fun hHeld => ?_)
            clear hK K
            try simp only [List.getElem_toArray, List.getElem_cons_zero, List.getElem_cons_succ, Act.put, List.setIfInBounds_toArray, List.set_cons_zero, List.set_cons_succ]
            refine wpAnyH_ready (rs := [7]) (by kernel_rfl) (by simp) ?_
            refine AllReadyH.cons rfl (fun K hK => ?_) AllReadyH.nil
            try simp only [List.getElem_toArray, List.getElem_cons_zero, List.getElem_cons_succ]
            go_simp
            refine (step (b := wb.heap.size) W1.drew ga va (max room 0) kind dst at_ la rla Aa C ca cd raw (HT.out.one.below (Below.refl _ _).drew) (HCS.out.below (Below.refl _ _).drew) hrw (by have := HT.out.l1; omega)).mono ?_
            rintro e W2 ⟨g5, v5, A5, c5, l5, rl5, rfl, hG5, hl5, hk5, hf5⟩
            have hk5 : Kp (Nb ga va) W1 W2 := ((Kp.refl _ W1).drew).trans hk5 (fun _ _ e => e)
            have HB5 : Hid (Below wb.heap.size wb W2) := hk5.out HT.out.below HT.out.one.own.nb HT.out.one.size
            have HT5 := Lib.hid (HT.out.step hG5 hl5 hk5 hf5)
            have B5 := HT.out.one.own.blk HT.out.b7 hk5 (by decide) (by decide)
            have c70 : W2.cell? ⟨t7, 0, none⟩ = some (.int .i64 (max room 0)) := (B5.cell 0).trans rfl
            have c71 : W2.cell? ⟨t7, 1, none⟩ = some (.slice Aa rla.length ca) := (B5.cell 1).trans rfl
            have f70 := B5.frozen 0
            have f71 := B5.frozen 1
            have hS1 : W2.cell? ⟨w.heap.size, 1, none⟩ = some (.slice (some ⟨bi, oi, none⟩) o2.length c2) ∧ W2.cell? ⟨bi, oi + k * 4, none⟩ = some (.int .i64 kind) ∧ W2.cell? ⟨bi, oi + k * 4 + 1, none⟩ = some (.int .i64 dst) ∧ W2.cell? ⟨bi, oi + k * 4 + 2, none⟩ = some (.int .i64 at_) ∧ W2.cell? ⟨bi, oi + k * 4 + 3, none⟩ = some (.slice C raw.length cd) := hcells W2 HB5.out
            have hS2 : ((W2.setCell ⟨t7, 0, none⟩ (.int .i64 (max room 0))).setCell ⟨t7, 1, none⟩ (.slice A5 rl5.length c5)).cell? ⟨w.heap.size, 1, none⟩ = some (.slice (some ⟨bi, oi, none⟩) o2.length c2) ∧ ((W2.setCell ⟨t7, 0, none⟩ (.int .i64 (max room 0))).setCell ⟨t7, 1, none⟩ (.slice A5 rl5.length c5)).cell? ⟨bi, oi + k * 4, none⟩ = some (.int .i64 kind) ∧ ((W2.setCell ⟨t7, 0, none⟩ (.int .i64 (max room 0))).setCell ⟨t7, 1, none⟩ (.slice A5 rl5.length c5)).cell? ⟨bi, oi + k * 4 + 1, none⟩ = some (.int .i64 dst) ∧ ((W2.setCell ⟨t7, 0, none⟩ (.int .i64 (max room 0))).setCell ⟨t7, 1, none⟩ (.slice A5 rl5.length c5)).cell? ⟨bi, oi + k * 4 + 2, none⟩ = some (.int .i64 at_) ∧ ((W2.setCell ⟨t7, 0, none⟩ (.int .i64 (max room 0))).setCell ⟨t7, 1, none⟩ (.slice A5 rl5.length c5)).cell? ⟨bi, oi + k * 4 + 3, none⟩ = some (.slice C raw.length cd) := hcells _ ((HB5.out.setCell (p := ⟨t7, 0, none⟩) HT.out.le7 _).setCell (p := ⟨t7, 1, none⟩) HT.out.le7 _)
            clear hG5 hl5 hk5 hf5 B5 hcells hS0 HT HCS
            try (go_wp2_with fail)
            refine hK.out _ _ hS1 (fun hHeld => ?_)
            clear hK K
            try simp only [List.getElem_toArray, List.getElem_cons_zero, List.getElem_cons_succ, Act.put, List.setIfInBounds_toArray, List.set_cons_zero, List.set_cons_succ]
            refine wpAnyH_take (i := 8) (v := ?_) rfl (by kernel_rfl) (by kernel_rfl) (by kernel_rfl) (fun _ _ _ h => h) (Or.inl ⟨by rfl, ?_⟩) hS1 ?_
            rotate_left
            · intro w hSw; obtain ⟨s0, s1, s2, s3, s4⟩ := hSw; first | (go_simp; done) | (go_simp; with_reducible rfl)
            try simp only [List.getElem_toArray, List.getElem_cons_zero, List.getElem_cons_succ, Act.put, List.setIfInBounds_toArray, List.set_cons_zero, List.set_cons_succ]
            refine wpAnyH_take (i := 9) (v := ?_) rfl (by kernel_rfl) (by kernel_rfl) (by kernel_rfl) (fun _ _ _ h => h) (Or.inl ⟨by rfl, ?_⟩) hS1 ?_
            rotate_left
            · intro w hSw; obtain ⟨s0, s1, s2, s3, s4⟩ := hSw; first | (go_simp; done) | (go_simp; with_reducible rfl)
            try simp only [List.getElem_toArray, List.getElem_cons_zero, List.getElem_cons_succ, Act.put, List.setIfInBounds_toArray, List.set_cons_zero, List.set_cons_succ]
            refine wpAnyH_take (i := 10) (v := ?_) rfl (by kernel_rfl) (by kernel_rfl) (by kernel_rfl) (fun _ _ _ h => h) (Or.inl ⟨by rfl, ?_⟩) hS1 ?_
            rotate_left
            · intro w hSw; obtain ⟨s0, s1, s2, s3, s4⟩ := hSw; first | (go_simp; done) | (go_simp; with_reducible rfl)
            try simp only [List.getElem_toArray, List.getElem_cons_zero, List.getElem_cons_succ, Act.put, List.setIfInBounds_toArray, List.set_cons_zero, List.set_cons_succ]
            refine wpAnyH_take (i := 11) (v := ?_) rfl (by kernel_rfl) (by kernel_rfl) (by kernel_rfl) (fun _ _ _ h => h) (Or.inl ⟨by rfl, ?_⟩) hS1 ?_
            rotate_left
            · intro w hSw; obtain ⟨s0, s1, s2, s3, s4⟩ := hSw; first | (go_simp; done) | (go_simp; with_reducible rfl)
            try simp only [List.getElem_toArray, List.getElem_cons_zero, List.getElem_cons_succ, Act.put, List.setIfInBounds_toArray, List.set_cons_zero, List.set_cons_succ]
            refine wpAnyH_take (i := 12) (v := ?_) rfl (by kernel_rfl) (by kernel_rfl) (by kernel_rfl) (fun _ _ _ h => h) (Or.inl ⟨by rfl, ?_⟩) hS1 ?_
            rotate_left
            · intro w hSw; obtain ⟨s0, s1, s2, s3, s4⟩ := hSw; first | (go_simp; done) | (go_simp; with_reducible rfl)
            try simp only [List.getElem_toArray, List.getElem_cons_zero, List.getElem_cons_succ, Act.put, List.setIfInBounds_toArray, List.set_cons_zero, List.set_cons_succ]
            refine wpAnyH_ready (rs := [13]) (by kernel_rfl) (by simp) ?_
            refine AllReadyH.cons rfl (fun K hK => ?_) AllReadyH.nil
            try simp only [List.getElem_toArray, List.getElem_cons_zero, List.getElem_cons_succ]
            go_simp
            refine hK.out _ _ hS2 (fun hHeld => ?_)
            clear hK K
            try simp only [List.getElem_toArray, List.getElem_cons_zero, List.getElem_cons_succ, Act.put, List.setIfInBounds_toArray, List.set_cons_zero, List.set_cons_succ]
            refine wpAnyH_take (i := 14) (v := ?_) rfl (by kernel_rfl) (by kernel_rfl) (by kernel_rfl) (fun _ _ _ h => h) (Or.inl ⟨by rfl, ?_⟩) hS2 ?_
            rotate_left
            · intro w hSw; obtain ⟨s0, s1, s2, s3, s4⟩ := hSw; first | (go_simp; done) | (go_simp; with_reducible rfl)
            try simp only [List.getElem_toArray, List.getElem_cons_zero, List.getElem_cons_succ, Act.put, List.setIfInBounds_toArray, List.set_cons_zero, List.set_cons_succ]
            refine wpAnyH_done (by kernel_rfl) ?_ _
            (go_wp2_with fail; go_meet; exact ⟨g5, rfl, ⟨_, _, _, _, _, _, _, _, _, _, HT5.out.more (by omega) (Nat.le_refl _)⟩⟩)
          case rest =>
            clear z0 z1 hlt
            obtain ⟨ga', rfl, HTn⟩ := hcut
            clear HT e1 e2
            obtain ⟨va, la, Aa, ca, rla, vb, lb, Ab, cb, rlb, hT⟩ := HTn.out
            obtain ⟨W1, rfl⟩ : ∃ W1 : World, W1 = wc := ⟨_, rfl⟩
            have HT := Lib.hid hT
            have e2 : W1.cell? ⟨w.heap.size, 2, none⟩ = some (.slice A3 o3.length c3) := ((HBX.out.below hT.below).cell 2).trans rfl
            clear hT HTn
            by_cases hlt : k < o3.length
            · have z0 : W1.cell? ⟨t9, 0, none⟩ = some (.int .i64 (max room 0)) := (HT.out.b9.cell 0).trans rfl
              have z1 : W1.cell? ⟨t9, 1, none⟩ = some (.slice Ab rlb.length cb) := (HT.out.b9.cell 1).trans rfl
              obtain ⟨⟨kind, dst, at_, cv, raw⟩, hc⟩ : ∃ c, o3[k]? = some c := ⟨_, List.getElem?_eq_getElem hlt⟩
              have hf := HS3.out.fine _ (List.mem_of_getElem? hc)
              have hsl := HS3.out.sl
              obtain ⟨bi, oi, rfl, x0⟩ := hsl.at_ (j := k * 4 + 0) (u := .int .i64 kind) (by rw [cl_at o3 k 0 _ hc (by omega)]; rfl)
              obtain ⟨b', o', e', x1⟩ := hsl.at_ (j := k * 4 + 1) (u := .int .i64 dst) (by rw [cl_at o3 k 1 _ hc (by omega)]; rfl)
              injection e' with e'
              injection e' with e1 e2
              subst e1 e2
              obtain ⟨b', o', e', x2⟩ := hsl.at_ (j := k * 4 + 2) (u := .int .i64 at_) (by rw [cl_at o3 k 2 _ hc (by omega)]; rfl)
              injection e' with e'
              injection e' with e1 e2
              subst e1 e2
              obtain ⟨b', o', e', x3⟩ := hsl.at_ (j := k * 4 + 3) (u := cv) (by rw [cl_at o3 k 3 _ hc (by omega)]; rfl)
              injection e' with e'
              injection e' with e1 e2
              subst e1 e2
              rw [Nat.add_zero] at x0
              rw [← Nat.add_assoc] at x1 x2 x3
              have hcs : Ms.Safe wb.heap.size wb ⟨dst, cv, raw⟩ := .inr ⟨hf.1, hf.2.2.2.2.2⟩
              have hrw : raw.length ≤ 140737488351232 := hf.2.1
              obtain ⟨C, cd, hv, _, _⟩ := hf.1
              change cv = .slice C raw.length cd at hv
              subst hv
              have hcells : ∀ W, Below wb.heap.size wb W → W.cell? ⟨w.heap.size, 2, none⟩ = some (.slice (some ⟨bi, oi, none⟩) o3.length c3) ∧ W.cell? ⟨bi, oi + k * 4, none⟩ = some (.int .i64 kind) ∧ W.cell? ⟨bi, oi + k * 4 + 1, none⟩ = some (.int .i64 dst) ∧
                  W.cell? ⟨bi, oi + k * 4 + 2, none⟩ = some (.int .i64 at_) ∧ W.cell? ⟨bi, oi + k * 4 + 3, none⟩ = some (.slice C raw.length cd) := fun W h =>
                ⟨((HBX.out.below h).cell 2).trans rfl, (h.cell (p := ⟨bi, _, none⟩) (block_lt x0)).trans x0, (h.cell (p := ⟨bi, _, none⟩) (block_lt x1)).trans x1, (h.cell (p := ⟨bi, _, none⟩) (block_lt x2)).trans x2, (h.cell (p := ⟨bi, _, none⟩) (block_lt x3)).trans x3⟩
              have hS0 := hcells W1.drew HT.out.below.drew
              have HCS := Lib.hid (hcs.below (HT.out.below.mono (Nat.le_refl _)))
              clear hc hf hsl hcs x0 x1 x2 x3
              have hki : (k : Int) < (o3.length : Int) := by omega
              go_wp2_with fail
              refine wp_region_held_drew (S := fun w' => w'.cell? ⟨w.heap.size, 2, none⟩ = some (.slice (some ⟨bi, oi, none⟩) o3.length c3) ∧ w'.cell? ⟨bi, oi + k * 4, none⟩ = some (.int .i64 kind) ∧ w'.cell? ⟨bi, oi + k * 4 + 1, none⟩ = some (.int .i64 dst) ∧ w'.cell? ⟨bi, oi + k * 4 + 2, none⟩ = some (.int .i64 at_) ∧ w'.cell? ⟨bi, oi + k * 4 + 3, none⟩ = some (.slice C raw.length cd)) (by kernel_rfl) hS0 (fun hHeld => ?_)
              refine wpAnyH_take (i := 0) (v := ?_) rfl (by kernel_rfl) (by kernel_rfl) (by kernel_rfl) (fun _ _ _ h => h) (Or.inl ⟨by rfl, ?_⟩) hS0 ?_
              rotate_left
              · intro w hSw; obtain ⟨s0, s1, s2, s3, s4⟩ := hSw; first | (go_simp; done) | (go_simp; with_reducible rfl)
              try simp only [List.getElem_toArray, List.getElem_cons_zero, List.getElem_cons_succ, Act.put, List.setIfInBounds_toArray, List.set_cons_zero, List.set_cons_succ]
              refine wpAnyH_take (i := 2) (v := ?_) rfl (by kernel_rfl) (by kernel_rfl) (by kernel_rfl) (fun _ _ _ h => h) (Or.inl ⟨by rfl, ?_⟩) hS0 ?_
              rotate_left
              · intro w hSw; obtain ⟨s0, s1, s2, s3, s4⟩ := hSw; first | (go_simp; done) | (go_simp; with_reducible rfl)
              try simp only [List.getElem_toArray, List.getElem_cons_zero, List.getElem_cons_succ, Act.put, List.setIfInBounds_toArray, List.set_cons_zero, List.set_cons_succ]
              refine wpAnyH_take (i := 3) (v := ?_) rfl (by kernel_rfl) (by kernel_rfl) (by kernel_rfl) (fun _ _ _ h => h) (Or.inl ⟨by rfl, ?_⟩) hS0 ?_
              rotate_left
              · intro w hSw; obtain ⟨s0, s1, s2, s3, s4⟩ := hSw; first | (go_simp; done) | (go_simp; with_reducible rfl)
              try simp only [List.getElem_toArray, List.getElem_cons_zero, List.getElem_cons_succ, Act.put, List.setIfInBounds_toArray, List.set_cons_zero, List.set_cons_succ]
              refine wpAnyH_take (i := 4) (v := ?_) rfl (by kernel_rfl) (by kernel_rfl) (by kernel_rfl) (fun _ _ _ h => h) (Or.inl ⟨by rfl, ?_⟩) hS0 ?_
              rotate_left
              · intro w hSw; obtain ⟨s0, s1, s2, s3, s4⟩ := hSw; first | (go_simp; done) | (go_simp; with_reducible rfl)
              try simp only [List.getElem_toArray, List.getElem_cons_zero, List.getElem_cons_succ, Act.put, List.setIfInBounds_toArray, List.set_cons_zero, List.set_cons_succ]
              refine wpAnyH_take (i := 5) (v := ?_) rfl (by kernel_rfl) (by kernel_rfl) (by kernel_rfl) (fun _ _ _ h => h) (Or.inl ⟨by rfl, ?_⟩) hS0 ?_
              rotate_left
              · intro w hSw; obtain ⟨s0, s1, s2, s3, s4⟩ := hSw; first | (go_simp; done) | (go_simp; with_reducible rfl)
              try simp only [List.getElem_toArray, List.getElem_cons_zero, List.getElem_cons_succ, Act.put, List.setIfInBounds_toArray, List.set_cons_zero, List.set_cons_succ]
              refine wpAnyH_take (i := 6) (v := ?_) rfl (by kernel_rfl) (by kernel_rfl) (by kernel_rfl) (fun _ _ _ h => h) (Or.inl ⟨by rfl, ?_⟩) hS0 ?_
              rotate_left
              · intro w hSw; obtain ⟨s0, s1, s2, s3, s4⟩ := hSw; first | (go_simp; done) | (go_simp; with_reducible rfl)
              try simp only [List.getElem_toArray, List.getElem_cons_zero, List.getElem_cons_succ, Act.put, List.setIfInBounds_toArray, List.set_cons_zero, List.set_cons_succ]
              refine wpAnyH_ready (rs := [1]) (by kernel_rfl) (by simp) ?_
              refine AllReadyH.cons rfl (fun K hK => ?_) AllReadyH.nil
              try simp only [List.getElem_toArray, List.getElem_cons_zero, List.getElem_cons_succ]
              go_simp
              refine hK.out _ _ hS0 (fun hHeld => ?_)
              clear hK K
              try simp only [List.getElem_toArray, List.getElem_cons_zero, List.getElem_cons_succ, Act.put, List.setIfInBounds_toArray, List.set_cons_zero, List.set_cons_succ]
              refine wpAnyH_ready (rs := [7]) (by kernel_rfl) (by simp) ?_
              refine AllReadyH.cons rfl (fun K hK => ?_) AllReadyH.nil
              try simp only [List.getElem_toArray, List.getElem_cons_zero, List.getElem_cons_succ]
              go_simp
              refine (step (b := wb.heap.size) W1.drew gb vb (max room 0) kind dst at_ lb rlb Ab C cb cd raw (HT.out.two.below (Below.refl _ _).drew) (HCS.out.below (Below.refl _ _).drew) hrw (by have := HT.out.l2; omega)).mono ?_
              rintro e W2 ⟨g5, v5, A5, c5, l5, rl5, rfl, hG5, hl5, hk5, hf5⟩
              have hk5 : Kp (Nb gb vb) W1 W2 := ((Kp.refl _ W1).drew).trans hk5 (fun _ _ e => e)
              have HB5 : Hid (Below wb.heap.size wb W2) := hk5.out HT.out.below HT.out.two.own.nb HT.out.two.size
              have HT5 := Lib.hid ((HT.out.swap.step hG5 hl5 hk5 hf5).swap)
              have B5 := HT.out.two.own.blk HT.out.b9 hk5 (by decide) (by decide)
              have c70 : W2.cell? ⟨t9, 0, none⟩ = some (.int .i64 (max room 0)) := (B5.cell 0).trans rfl
              have c71 : W2.cell? ⟨t9, 1, none⟩ = some (.slice Ab rlb.length cb) := (B5.cell 1).trans rfl
              have f70 := B5.frozen 0
              have f71 := B5.frozen 1
              have hS1 : W2.cell? ⟨w.heap.size, 2, none⟩ = some (.slice (some ⟨bi, oi, none⟩) o3.length c3) ∧ W2.cell? ⟨bi, oi + k * 4, none⟩ = some (.int .i64 kind) ∧ W2.cell? ⟨bi, oi + k * 4 + 1, none⟩ = some (.int .i64 dst) ∧ W2.cell? ⟨bi, oi + k * 4 + 2, none⟩ = some (.int .i64 at_) ∧ W2.cell? ⟨bi, oi + k * 4 + 3, none⟩ = some (.slice C raw.length cd) := hcells W2 HB5.out
              have hS2 : ((W2.setCell ⟨t9, 0, none⟩ (.int .i64 (max room 0))).setCell ⟨t9, 1, none⟩ (.slice A5 rl5.length c5)).cell? ⟨w.heap.size, 2, none⟩ = some (.slice (some ⟨bi, oi, none⟩) o3.length c3) ∧ ((W2.setCell ⟨t9, 0, none⟩ (.int .i64 (max room 0))).setCell ⟨t9, 1, none⟩ (.slice A5 rl5.length c5)).cell? ⟨bi, oi + k * 4, none⟩ = some (.int .i64 kind) ∧ ((W2.setCell ⟨t9, 0, none⟩ (.int .i64 (max room 0))).setCell ⟨t9, 1, none⟩ (.slice A5 rl5.length c5)).cell? ⟨bi, oi + k * 4 + 1, none⟩ = some (.int .i64 dst) ∧ ((W2.setCell ⟨t9, 0, none⟩ (.int .i64 (max room 0))).setCell ⟨t9, 1, none⟩ (.slice A5 rl5.length c5)).cell? ⟨bi, oi + k * 4 + 2, none⟩ = some (.int .i64 at_) ∧ ((W2.setCell ⟨t9, 0, none⟩ (.int .i64 (max room 0))).setCell ⟨t9, 1, none⟩ (.slice A5 rl5.length c5)).cell? ⟨bi, oi + k * 4 + 3, none⟩ = some (.slice C raw.length cd) := hcells _ ((HB5.out.setCell (p := ⟨t9, 0, none⟩) HT.out.le9 _).setCell (p := ⟨t9, 1, none⟩) HT.out.le9 _)
              clear hG5 hl5 hk5 hf5 B5 hcells hS0 HT HCS
              try (go_wp2_with fail)
              refine hK.out _ _ hS1 (fun hHeld => ?_)
              clear hK K
              try simp only [List.getElem_toArray, List.getElem_cons_zero, List.getElem_cons_succ, Act.put, List.setIfInBounds_toArray, List.set_cons_zero, List.set_cons_succ]
              refine wpAnyH_take (i := 8) (v := ?_) rfl (by kernel_rfl) (by kernel_rfl) (by kernel_rfl) (fun _ _ _ h => h) (Or.inl ⟨by rfl, ?_⟩) hS1 ?_
              rotate_left
              · intro w hSw; obtain ⟨s0, s1, s2, s3, s4⟩ := hSw; first | (go_simp; done) | (go_simp; with_reducible rfl)
              try simp only [List.getElem_toArray, List.getElem_cons_zero, List.getElem_cons_succ, Act.put, List.setIfInBounds_toArray, List.set_cons_zero, List.set_cons_succ]
              refine wpAnyH_take (i := 9) (v := ?_) rfl (by kernel_rfl) (by kernel_rfl) (by kernel_rfl) (fun _ _ _ h => h) (Or.inl ⟨by rfl, ?_⟩) hS1 ?_
              rotate_left
              · intro w hSw; obtain ⟨s0, s1, s2, s3, s4⟩ := hSw; first | (go_simp; done) | (go_simp; with_reducible rfl)
              try simp only [List.getElem_toArray, List.getElem_cons_zero, List.getElem_cons_succ, Act.put, List.setIfInBounds_toArray, List.set_cons_zero, List.set_cons_succ]
              refine wpAnyH_take (i := 10) (v := ?_) rfl (by kernel_rfl) (by kernel_rfl) (by kernel_rfl) (fun _ _ _ h => h) (Or.inl ⟨by rfl, ?_⟩) hS1 ?_
              rotate_left
              · intro w hSw; obtain ⟨s0, s1, s2, s3, s4⟩ := hSw; first | (go_simp; done) | (go_simp; with_reducible rfl)
              try simp only [List.getElem_toArray, List.getElem_cons_zero, List.getElem_cons_succ, Act.put, List.setIfInBounds_toArray, List.set_cons_zero, List.set_cons_succ]
              refine wpAnyH_take (i := 11) (v := ?_) rfl (by kernel_rfl) (by kernel_rfl) (by kernel_rfl) (fun _ _ _ h => h) (Or.inl ⟨by rfl, ?_⟩) hS1 ?_
              rotate_left
              · intro w hSw; obtain ⟨s0, s1, s2, s3, s4⟩ := hSw; first | (go_simp; done) | (go_simp; with_reducible rfl)
              try simp only [List.getElem_toArray, List.getElem_cons_zero, List.getElem_cons_succ, Act.put, List.setIfInBounds_toArray, List.set_cons_zero, List.set_cons_succ]
              refine wpAnyH_take (i := 12) (v := ?_) rfl (by kernel_rfl) (by kernel_rfl) (by kernel_rfl) (fun _ _ _ h => h) (Or.inl ⟨by rfl, ?_⟩) hS1 ?_
              rotate_left
              · intro w hSw; obtain ⟨s0, s1, s2, s3, s4⟩ := hSw; first | (go_simp; done) | (go_simp; with_reducible rfl)
              try simp only [List.getElem_toArray, List.getElem_cons_zero, List.getElem_cons_succ, Act.put, List.setIfInBounds_toArray, List.set_cons_zero, List.set_cons_succ]
              refine wpAnyH_ready (rs := [13]) (by kernel_rfl) (by simp) ?_
              refine AllReadyH.cons rfl (fun K hK => ?_) AllReadyH.nil
              try simp only [List.getElem_toArray, List.getElem_cons_zero, List.getElem_cons_succ]
              go_simp
              refine hK.out _ _ hS2 (fun hHeld => ?_)
              clear hK K
              try simp only [List.getElem_toArray, List.getElem_cons_zero, List.getElem_cons_succ, Act.put, List.setIfInBounds_toArray, List.set_cons_zero, List.set_cons_succ]
              refine wpAnyH_take (i := 14) (v := ?_) rfl (by kernel_rfl) (by kernel_rfl) (by kernel_rfl) (fun _ _ _ h => h) (Or.inl ⟨by rfl, ?_⟩) hS2 ?_
              rotate_left
              · intro w hSw; obtain ⟨s0, s1, s2, s3, s4⟩ := hSw; first | (go_simp; done) | (go_simp; with_reducible rfl)
              try simp only [List.getElem_toArray, List.getElem_cons_zero, List.getElem_cons_succ, Act.put, List.setIfInBounds_toArray, List.set_cons_zero, List.set_cons_succ]
              refine wpAnyH_done (by kernel_rfl) ?_ _
              (go_wp2_with fail; go_roundw; (case rel => exact ⟨k + 1, ga', g5, rfl, rfl, by go_num, by omega, ⟨_, _, _, _, _, _, _, _, _, _, HT5.out.more (Nat.le_refl _) (by omega)⟩⟩); (case measure => simp [intOf]; omega))
            · have h1 : decide (k < o3.length) = false := decide_eq_false hlt
              go_wp2_with fail
              go_roundw
              case rel => exact ⟨k + 1, ga', gb, rfl, rfl, by go_num, by omega, ⟨_, _, _, _, _, _, _, _, _, _, HT.out.more (Nat.le_refl _) (by omega)⟩⟩
              case measure => simp [intOf]; omega
        · have h1d : decide (k < o2.length) = false := decide_eq_false hlt
          have hlt3 : k < o3.length := by omega
          clear hex
          go_upto_if 53 with fail
          go_cut [5, 6] (fun v5 _ wx => ∃ ga' : Nat, v5 = .pointer (some ⟨ga', 0, none⟩) ∧ Hid (TwEx wb.heap.size wb wx (max room 0) t7 t9 ga' gb (o1.length + min (k + 1) o2.length) (o1.length + min k o3.length)))
          case first =>
            go_wp2_with fail
            go_meet
            exact ⟨ga, rfl, ⟨_, _, _, _, _, _, _, _, _, _, HT.out.more (by omega) (Nat.le_refl _)⟩⟩
          case rest =>
            clear h1d hlt
            obtain ⟨ga', rfl, HTn⟩ := hcut
            clear HT e1 e2
            obtain ⟨va, la, Aa, ca, rla, vb, lb, Ab, cb, rlb, hT⟩ := HTn.out
            obtain ⟨W1, rfl⟩ : ∃ W1 : World, W1 = wc := ⟨_, rfl⟩
            have HT := Lib.hid hT
            have e2 : W1.cell? ⟨w.heap.size, 2, none⟩ = some (.slice A3 o3.length c3) := ((HBX.out.below hT.below).cell 2).trans rfl
            clear hT HTn
            by_cases hlt : k < o3.length
            · have z0 : W1.cell? ⟨t9, 0, none⟩ = some (.int .i64 (max room 0)) := (HT.out.b9.cell 0).trans rfl
              have z1 : W1.cell? ⟨t9, 1, none⟩ = some (.slice Ab rlb.length cb) := (HT.out.b9.cell 1).trans rfl
              obtain ⟨⟨kind, dst, at_, cv, raw⟩, hc⟩ : ∃ c, o3[k]? = some c := ⟨_, List.getElem?_eq_getElem hlt⟩
              have hf := HS3.out.fine _ (List.mem_of_getElem? hc)
              have hsl := HS3.out.sl
              obtain ⟨bi, oi, rfl, x0⟩ := hsl.at_ (j := k * 4 + 0) (u := .int .i64 kind) (by rw [cl_at o3 k 0 _ hc (by omega)]; rfl)
              obtain ⟨b', o', e', x1⟩ := hsl.at_ (j := k * 4 + 1) (u := .int .i64 dst) (by rw [cl_at o3 k 1 _ hc (by omega)]; rfl)
              injection e' with e'
              injection e' with e1 e2
              subst e1 e2
              obtain ⟨b', o', e', x2⟩ := hsl.at_ (j := k * 4 + 2) (u := .int .i64 at_) (by rw [cl_at o3 k 2 _ hc (by omega)]; rfl)
              injection e' with e'
              injection e' with e1 e2
              subst e1 e2
              obtain ⟨b', o', e', x3⟩ := hsl.at_ (j := k * 4 + 3) (u := cv) (by rw [cl_at o3 k 3 _ hc (by omega)]; rfl)
              injection e' with e'
              injection e' with e1 e2
              subst e1 e2
              rw [Nat.add_zero] at x0
              rw [← Nat.add_assoc] at x1 x2 x3
              have hcs : Ms.Safe wb.heap.size wb ⟨dst, cv, raw⟩ := .inr ⟨hf.1, hf.2.2.2.2.2⟩
              have hrw : raw.length ≤ 140737488351232 := hf.2.1
              obtain ⟨C, cd, hv, _, _⟩ := hf.1
              change cv = .slice C raw.length cd at hv
              subst hv
              have hcells : ∀ W, Below wb.heap.size wb W → W.cell? ⟨w.heap.size, 2, none⟩ = some (.slice (some ⟨bi, oi, none⟩) o3.length c3) ∧ W.cell? ⟨bi, oi + k * 4, none⟩ = some (.int .i64 kind) ∧ W.cell? ⟨bi, oi + k * 4 + 1, none⟩ = some (.int .i64 dst) ∧
                  W.cell? ⟨bi, oi + k * 4 + 2, none⟩ = some (.int .i64 at_) ∧ W.cell? ⟨bi, oi + k * 4 + 3, none⟩ = some (.slice C raw.length cd) := fun W h =>
                ⟨((HBX.out.below h).cell 2).trans rfl, (h.cell (p := ⟨bi, _, none⟩) (block_lt x0)).trans x0, (h.cell (p := ⟨bi, _, none⟩) (block_lt x1)).trans x1, (h.cell (p := ⟨bi, _, none⟩) (block_lt x2)).trans x2, (h.cell (p := ⟨bi, _, none⟩) (block_lt x3)).trans x3⟩
              have hS0 := hcells W1.drew HT.out.below.drew
              have HCS := Lib.hid (hcs.below (HT.out.below.mono (Nat.le_refl _)))
              clear hc hf hsl hcs x0 x1 x2 x3
              have hki : (k : Int) < (o3.length : Int) := by omega
              go_wp2_with fail
              refine wp_region_held_drew (S := fun w' => w'.cell? ⟨w.heap.size, 2, none⟩ = some (.slice (some ⟨bi, oi, none⟩) o3.length c3) ∧ w'.cell? ⟨bi, oi + k * 4, none⟩ = some (.int .i64 kind) ∧ w'.cell? ⟨bi, oi + k * 4 + 1, none⟩ = some (.int .i64 dst) ∧ w'.cell? ⟨bi, oi + k * 4 + 2, none⟩ = some (.int .i64 at_) ∧ w'.cell? ⟨bi, oi + k * 4 + 3, none⟩ = some (.slice C raw.length cd)) (by kernel_rfl) hS0 (fun hHeld => ?_)
              refine wpAnyH_take (i := 0) (v := ?_) rfl (by kernel_rfl) (by kernel_rfl) (by kernel_rfl) (fun _ _ _ h => h) (Or.inl ⟨by rfl, ?_⟩) hS0 ?_
              rotate_left
              · intro w hSw; obtain ⟨s0, s1, s2, s3, s4⟩ := hSw; first | (go_simp; done) | (go_simp; with_reducible rfl)
              try simp only [List.getElem_toArray, List.getElem_cons_zero, List.getElem_cons_succ, Act.put, List.setIfInBounds_toArray, List.set_cons_zero, List.set_cons_succ]
              refine wpAnyH_take (i := 2) (v := ?_) rfl (by kernel_rfl) (by kernel_rfl) (by kernel_rfl) (fun _ _ _ h => h) (Or.inl ⟨by rfl, ?_⟩) hS0 ?_
              rotate_left
              · intro w hSw; obtain ⟨s0, s1, s2, s3, s4⟩ := hSw; first | (go_simp; done) | (go_simp; with_reducible rfl)
              try simp only [List.getElem_toArray, List.getElem_cons_zero, List.getElem_cons_succ, Act.put, List.setIfInBounds_toArray, List.set_cons_zero, List.set_cons_succ]
              refine wpAnyH_take (i := 3) (v := ?_) rfl (by kernel_rfl) (by kernel_rfl) (by kernel_rfl) (fun _ _ _ h => h) (Or.inl ⟨by rfl, ?_⟩) hS0 ?_
              rotate_left
              · intro w hSw; obtain ⟨s0, s1, s2, s3, s4⟩ := hSw; first | (go_simp; done) | (go_simp; with_reducible rfl)
              try simp only [List.getElem_toArray, List.getElem_cons_zero, List.getElem_cons_succ, Act.put, List.setIfInBounds_toArray, List.set_cons_zero, List.set_cons_succ]
              refine wpAnyH_take (i := 4) (v := ?_) rfl (by kernel_rfl) (by kernel_rfl) (by kernel_rfl) (fun _ _ _ h => h) (Or.inl ⟨by rfl, ?_⟩) hS0 ?_
              rotate_left
              · intro w hSw; obtain ⟨s0, s1, s2, s3, s4⟩ := hSw; first | (go_simp; done) | (go_simp; with_reducible rfl)
              try simp only [List.getElem_toArray, List.getElem_cons_zero, List.getElem_cons_succ, Act.put, List.setIfInBounds_toArray, List.set_cons_zero, List.set_cons_succ]
              refine wpAnyH_take (i := 5) (v := ?_) rfl (by kernel_rfl) (by kernel_rfl) (by kernel_rfl) (fun _ _ _ h => h) (Or.inl ⟨by rfl, ?_⟩) hS0 ?_
              rotate_left
              · intro w hSw; obtain ⟨s0, s1, s2, s3, s4⟩ := hSw; first | (go_simp; done) | (go_simp; with_reducible rfl)
              try simp only [List.getElem_toArray, List.getElem_cons_zero, List.getElem_cons_succ, Act.put, List.setIfInBounds_toArray, List.set_cons_zero, List.set_cons_succ]
              refine wpAnyH_take (i := 6) (v := ?_) rfl (by kernel_rfl) (by kernel_rfl) (by kernel_rfl) (fun _ _ _ h => h) (Or.inl ⟨by rfl, ?_⟩) hS0 ?_
              rotate_left
              · intro w hSw; obtain ⟨s0, s1, s2, s3, s4⟩ := hSw; first | (go_simp; done) | (go_simp; with_reducible rfl)
              try simp only [List.getElem_toArray, List.getElem_cons_zero, List.getElem_cons_succ, Act.put, List.setIfInBounds_toArray, List.set_cons_zero, List.set_cons_succ]
              refine wpAnyH_ready (rs := [1]) (by kernel_rfl) (by simp) ?_
              refine AllReadyH.cons rfl (fun K hK => ?_) AllReadyH.nil
              try simp only [List.getElem_toArray, List.getElem_cons_zero, List.getElem_cons_succ]
              go_simp
              refine hK.out _ _ hS0 (fun hHeld => ?_)
              clear hK K
              try simp only [List.getElem_toArray, List.getElem_cons_zero, List.getElem_cons_succ, Act.put, List.setIfInBounds_toArray, List.set_cons_zero, List.set_cons_succ]
              refine wpAnyH_ready (rs := [7]) (by kernel_rfl) (by simp) ?_
              refine AllReadyH.cons rfl (fun K hK => ?_) AllReadyH.nil
              try simp only [List.getElem_toArray, List.getElem_cons_zero, List.getElem_cons_succ]
              go_simp
              refine (step (b := wb.heap.size) W1.drew gb vb (max room 0) kind dst at_ lb rlb Ab C cb cd raw (HT.out.two.below (Below.refl _ _).drew) (HCS.out.below (Below.refl _ _).drew) hrw (by have := HT.out.l2; omega)).mono ?_
              rintro e W2 ⟨g5, v5, A5, c5, l5, rl5, rfl, hG5, hl5, hk5, hf5⟩
              have hk5 : Kp (Nb gb vb) W1 W2 := ((Kp.refl _ W1).drew).trans hk5 (fun _ _ e => e)
              have HB5 : Hid (Below wb.heap.size wb W2) := hk5.out HT.out.below HT.out.two.own.nb HT.out.two.size
              have HT5 := Lib.hid ((HT.out.swap.step hG5 hl5 hk5 hf5).swap)
              have B5 := HT.out.two.own.blk HT.out.b9 hk5 (by decide) (by decide)
              have c70 : W2.cell? ⟨t9, 0, none⟩ = some (.int .i64 (max room 0)) := (B5.cell 0).trans rfl
              have c71 : W2.cell? ⟨t9, 1, none⟩ = some (.slice Ab rlb.length cb) := (B5.cell 1).trans rfl
              have f70 := B5.frozen 0
              have f71 := B5.frozen 1
              have hS1 : W2.cell? ⟨w.heap.size, 2, none⟩ = some (.slice (some ⟨bi, oi, none⟩) o3.length c3) ∧ W2.cell? ⟨bi, oi + k * 4, none⟩ = some (.int .i64 kind) ∧ W2.cell? ⟨bi, oi + k * 4 + 1, none⟩ = some (.int .i64 dst) ∧ W2.cell? ⟨bi, oi + k * 4 + 2, none⟩ = some (.int .i64 at_) ∧ W2.cell? ⟨bi, oi + k * 4 + 3, none⟩ = some (.slice C raw.length cd) := hcells W2 HB5.out
              have hS2 : ((W2.setCell ⟨t9, 0, none⟩ (.int .i64 (max room 0))).setCell ⟨t9, 1, none⟩ (.slice A5 rl5.length c5)).cell? ⟨w.heap.size, 2, none⟩ = some (.slice (some ⟨bi, oi, none⟩) o3.length c3) ∧ ((W2.setCell ⟨t9, 0, none⟩ (.int .i64 (max room 0))).setCell ⟨t9, 1, none⟩ (.slice A5 rl5.length c5)).cell? ⟨bi, oi + k * 4, none⟩ = some (.int .i64 kind) ∧ ((W2.setCell ⟨t9, 0, none⟩ (.int .i64 (max room 0))).setCell ⟨t9, 1, none⟩ (.slice A5 rl5.length c5)).cell? ⟨bi, oi + k * 4 + 1, none⟩ = some (.int .i64 dst) ∧ ((W2.setCell ⟨t9, 0, none⟩ (.int .i64 (max room 0))).setCell ⟨t9, 1, none⟩ (.slice A5 rl5.length c5)).cell? ⟨bi, oi + k * 4 + 2, none⟩ = some (.int .i64 at_) ∧ ((W2.setCell ⟨t9, 0, none⟩ (.int .i64 (max room 0))).setCell ⟨t9, 1, none⟩ (.slice A5 rl5.length c5)).cell? ⟨bi, oi + k * 4 + 3, none⟩ = some (.slice C raw.length cd) := hcells _ ((HB5.out.setCell (p := ⟨t9, 0, none⟩) HT.out.le9 _).setCell (p := ⟨t9, 1, none⟩) HT.out.le9 _)
              clear hG5 hl5 hk5 hf5 B5 hcells hS0 HT HCS
              try (go_wp2_with fail)
              refine hK.out _ _ hS1 (fun hHeld => ?_)
              clear hK K
              try simp only [List.getElem_toArray, List.getElem_cons_zero, List.getElem_cons_succ, Act.put, List.setIfInBounds_toArray, List.set_cons_zero, List.set_cons_succ]
              refine wpAnyH_take (i := 8) (v := ?_) rfl (by kernel_rfl) (by kernel_rfl) (by kernel_rfl) (fun _ _ _ h => h) (Or.inl ⟨by rfl, ?_⟩) hS1 ?_
              rotate_left
              · intro w hSw; obtain ⟨s0, s1, s2, s3, s4⟩ := hSw; first | (go_simp; done) | (go_simp; with_reducible rfl)
              try simp only [List.getElem_toArray, List.getElem_cons_zero, List.getElem_cons_succ, Act.put, List.setIfInBounds_toArray, List.set_cons_zero, List.set_cons_succ]
              refine wpAnyH_take (i := 9) (v := ?_) rfl (by kernel_rfl) (by kernel_rfl) (by kernel_rfl) (fun _ _ _ h => h) (Or.inl ⟨by rfl, ?_⟩) hS1 ?_
              rotate_left
              · intro w hSw; obtain ⟨s0, s1, s2, s3, s4⟩ := hSw; first | (go_simp; done) | (go_simp; with_reducible rfl)
              try simp only [List.getElem_toArray, List.getElem_cons_zero, List.getElem_cons_succ, Act.put, List.setIfInBounds_toArray, List.set_cons_zero, List.set_cons_succ]
              refine wpAnyH_take (i := 10) (v := ?_) rfl (by kernel_rfl) (by kernel_rfl) (by kernel_rfl) (fun _ _ _ h => h) (Or.inl ⟨by rfl, ?_⟩) hS1 ?_
              rotate_left
              · intro w hSw; obtain ⟨s0, s1, s2, s3, s4⟩ := hSw; first | (go_simp; done) | (go_simp; with_reducible rfl)
              try simp only [List.getElem_toArray, List.getElem_cons_zero, List.getElem_cons_succ, Act.put, List.setIfInBounds_toArray, List.set_cons_zero, List.set_cons_succ]
              refine wpAnyH_take (i := 11) (v := ?_) rfl (by kernel_rfl) (by kernel_rfl) (by kernel_rfl) (fun _ _ _ h => h) (Or.inl ⟨by rfl, ?_⟩) hS1 ?_
              rotate_left
              · intro w hSw; obtain ⟨s0, s1, s2, s3, s4⟩ := hSw; first | (go_simp; done) | (go_simp; with_reducible rfl)
              try simp only [List.getElem_toArray, List.getElem_cons_zero, List.getElem_cons_succ, Act.put, List.setIfInBounds_toArray, List.set_cons_zero, List.set_cons_succ]
              refine wpAnyH_take (i := 12) (v := ?_) rfl (by kernel_rfl) (by kernel_rfl) (by kernel_rfl) (fun _ _ _ h => h) (Or.inl ⟨by rfl, ?_⟩) hS1 ?_
              rotate_left
              · intro w hSw; obtain ⟨s0, s1, s2, s3, s4⟩ := hSw; first | (go_simp; done) | (go_simp; with_reducible rfl)
              try simp only [List.getElem_toArray, List.getElem_cons_zero, List.getElem_cons_succ, Act.put, List.setIfInBounds_toArray, List.set_cons_zero, List.set_cons_succ]
              refine wpAnyH_ready (rs := [13]) (by kernel_rfl) (by simp) ?_
              refine AllReadyH.cons rfl (fun K hK => ?_) AllReadyH.nil
              try simp only [List.getElem_toArray, List.getElem_cons_zero, List.getElem_cons_succ]
              go_simp
              refine hK.out _ _ hS2 (fun hHeld => ?_)
              clear hK K
              try simp only [List.getElem_toArray, List.getElem_cons_zero, List.getElem_cons_succ, Act.put, List.setIfInBounds_toArray, List.set_cons_zero, List.set_cons_succ]
              refine wpAnyH_take (i := 14) (v := ?_) rfl (by kernel_rfl) (by kernel_rfl) (by kernel_rfl) (fun _ _ _ h => h) (Or.inl ⟨by rfl, ?_⟩) hS2 ?_
              rotate_left
              · intro w hSw; obtain ⟨s0, s1, s2, s3, s4⟩ := hSw; first | (go_simp; done) | (go_simp; with_reducible rfl)
              try simp only [List.getElem_toArray, List.getElem_cons_zero, List.getElem_cons_succ, Act.put, List.setIfInBounds_toArray, List.set_cons_zero, List.set_cons_succ]
              refine wpAnyH_done (by kernel_rfl) ?_ _
              (go_wp2_with fail; go_roundw; (case rel => exact ⟨k + 1, ga', g5, rfl, rfl, by go_num, by omega, ⟨_, _, _, _, _, _, _, _, _, _, HT5.out.more (Nat.le_refl _) (by omega)⟩⟩); (case measure => simp [intOf]; omega))
            · exact absurd hlt3 hlt
      · have h1 : decide (k < o2.length) = false := decide_eq_false (by omega)
        have h2 : decide (k < o3.length) = false := decide_eq_false (by omega)
        have z0 : W1.cell? ⟨t7, 0, none⟩ = some (.int .i64 (max room 0)) := (HT.out.b7.cell 0).trans rfl
        have z1 : W1.cell? ⟨t7, 1, none⟩ = some (.slice Aa rla.length ca) := (HT.out.b7.cell 1).trans rfl
        clear hex
        go_wp2_with fail
        refine (stands W1 (max room 0) Aa ca ga va (max room 0) la HT.out.one.own.net HT.out.one.rf HT.out.one.same HT.out.one.short (by have := HT.out.l1; omega)).mono ?_
        rintro e w6 ⟨rfl, hb⟩
        have HT6 := Lib.hid (HT.out.keep hb)
        have y0 : w6.cell? ⟨t9, 0, none⟩ = some (.int .i64 (max room 0)) := (HT6.out.b9.cell 0).trans rfl
        have y1 : w6.cell? ⟨t9, 1, none⟩ = some (.slice Ab rlb.length cb) := (HT6.out.b9.cell 1).trans rfl
        clear hb z0 z1 e1 e2 HT
        go_wp2_with fail
        refine (stands w6 (max room 0) Ab cb gb vb (max room 0) lb HT6.out.two.own.net HT6.out.two.rf HT6.out.two.same HT6.out.two.short (by have := HT6.out.l2; omega)).mono ?_
        rintro e w7 ⟨rfl, hb⟩
        have HF : Hid (Below w.heap.size w w7) := HB0.out.trans ((HT6.out.keep hb).below.mono (by omega))
        clear hb HT6
        go_wp2_with fail
        go_ret
        exact ⟨rfl, HF.out⟩

end Go.Proofs.Ytogiedephnappaa.Net
