/- Contracts of package net's functions. -/
import Derived.Test.YtogiedephnappaaWords
import Derived.Deep.RegionHeld3
namespace Go.Proofs.Ytogiedephnappaa.Net
open Go.RowKit Go.Proofs.Ytogiedephnappaa.Mem

section
variable (w : World) (g : Nat) (v : Value) (room : Int) (l : List Ms)

theorem there_yes (h : Nt w g v room l) (k : Nat) (hk : k < l.length) :
    Calls Try.prog 28 #[.pointer (some ⟨g, 0, none⟩), .int .i64 k] w fun e w' => e = .returned (.bool true) ∧ w' = w := by
  obtain ⟨A, c, rfl, _⟩ := h.slice
  have c1 : w.cell? ⟨g, 1, none⟩ = some (.slice A l.length c) := (h.blk.cell 1).trans rfl
  have hk0 : (0 : Int) ≤ (k : Int) := by omega
  have hk1 : (k : Int) < (l.length : Int) := by omega
  clear h
  go_enter Try.func28, Try.ntmps28
  go_wp2
  go_ret
  exact ⟨rfl, rfl⟩

theorem there_no (h : Nt w g v room l) (i : Int) (hi : i < 0 ∨ (l.length : Int) ≤ i) :
    Calls Try.prog 28 #[.pointer (some ⟨g, 0, none⟩), .int .i64 i] w fun e w' => e = .returned (.bool false) ∧ w' = w := by
  obtain ⟨A, c, rfl, _⟩ := h.slice
  have c1 : w.cell? ⟨g, 1, none⟩ = some (.slice A l.length c) := (h.blk.cell 1).trans rfl
  clear h
  by_cases h0 : i < 0
  · clear hi c1
    go_enter Try.func28, Try.ntmps28
    go_wp2
    go_ret
    exact ⟨rfl, rfl⟩
  · have h1 : 0 ≤ i := by omega
    have h2 : decide (i < (l.length : Int)) = false := decide_eq_false (by omega)
    clear hi h0
    go_enter Try.func28, Try.ntmps28
    go_wp2
    go_ret
    exact ⟨by simp, rfl⟩

theorem len (h : Nt w g v room l) : Calls Try.prog 17 #[.pointer (some ⟨g, 0, none⟩)] w fun e w' => e = .returned (.int .i64 l.length) ∧ w' = w := by
  obtain ⟨A, c, rfl, _⟩ := h.slice
  have c1 : w.cell? ⟨g, 1, none⟩ = some (.slice A l.length c) := (h.blk.cell 1).trans rfl
  clear h
  go_enter Try.func17, Try.ntmps17
  go_wp2
  go_ret
  exact ⟨rfl, rfl⟩

theorem at_no (h : Nt w g v room l) (i : Int) (hi : i < 0 ∨ (l.length : Int) ≤ i) :
    Calls Try.prog 19 #[.pointer (some ⟨g, 0, none⟩), .int .i64 i] w fun e w' => e = .returned (.tuple #[.int .i64 0, .slice none 0 0, .bool false]) ∧ w' = w := by
  have HT := Lib.hid (there_no w g v room l h i hi)
  clear h hi
  go_enter Try.func19, Try.ntmps19
  go_wp2_with fail
  refine HT.out.mono ?_
  rintro e w1 ⟨rfl, rfl⟩
  clear HT
  go_wp2
  go_ret3
  exact ⟨rfl, rfl⟩

/-- What At tells of a message: its bytes are the caller's own. -/
def Told (w : World) (x : Ms) (e : Ending) (w' : World) : Prop :=
  ∃ u, e = .returned (.tuple #[.int .i64 x.dst, u, .bool true]) ∧ w'.ownsRow w.heap.size 5 1 u x.raw.length (bcs x.raw) ∧ Below w.heap.size w w'

set_option linter.unusedSimpArgs false in
set_option maxRecDepth 100000 in
theorem at_yes (h : Nt w g v room l) (k : Nat) (x : Ms) (hx : l[k]? = some x) (hb : x.raw.length ≤ 140737488355328) :
    Calls Try.prog 19 #[.pointer (some ⟨g, 0, none⟩), .int .i64 k] w (Told w x) := by
  have hk : k < l.length := (List.getElem?_eq_some_iff.1 hx).1
  have HT := Lib.hid (there_yes w g v room l h k hk)
  obtain ⟨A, c, rfl, hlc, hcm, _, hsl, _⟩ := h.slice
  have c1 : w.cell? ⟨g, 1, none⟩ = some (.slice A l.length c) := (h.blk.cell 1).trans rfl
  obtain ⟨b, o, rfl, x0⟩ := hsl.at_ (j := k * 2 + 0) (u := .int .i64 x.dst) (by rw [flat_at l k 0 x hx (by omega)]; rfl)
  obtain ⟨b', o', e', x1⟩ := hsl.at_ (j := k * 2 + 1) (u := x.v) (by rw [flat_at l k 1 x hx (by omega)]; rfl)
  injection e' with e'
  injection e' with e1 e2
  subst e1 e2
  obtain ⟨B, d, hv, hbd, hd, hn, hbs, _⟩ := (h.msg x (List.mem_of_getElem? hx)).slice
  rw [hv] at x1
  rw [Nat.add_zero] at x0
  rw [← Nat.add_assoc] at x1
  have HC := Lib.hid (SlBytes.clone B x.raw.length d (bcs x.raw) w.drew hbs.drew (bcs_one _) (by omega) hn)
  have hk1 : (k : Int) < (l.length : Int) := by omega
  have hS0 : w.drew.cell? ⟨g, 1, none⟩ = some (.slice (some ⟨b, o, none⟩) l.length c) ∧ w.drew.cell? ⟨b, o + k * 2, none⟩ = some (.int .i64 x.dst) ∧ w.drew.cell? ⟨b, o + k * 2 + 1, none⟩ = some (.slice B x.raw.length d) := ⟨c1, x0, x1⟩
  clear h hx hsl hbs hv hn c1 x0 x1
  go_enter Try.func19, Try.ntmps19
  go_wp2_with fail
  refine HT.out.mono ?_
  rintro e w1 ⟨rfl, rfl⟩
  clear HT
  go_wp2_with fail

  refine wp_region_held_drew (S := fun w' => w'.cell? ⟨g, 1, none⟩ = some (.slice (some ⟨b, o, none⟩) l.length c) ∧ w'.cell? ⟨b, o + k * 2, none⟩ = some (.int .i64 x.dst) ∧ w'.cell? ⟨b, o + k * 2 + 1, none⟩ = some (.slice B x.raw.length d)) (by kernel_rfl) hS0 (fun hHeld => ?_)
  refine wpAnyH_take (i := 0) (v := ?_) rfl (by kernel_rfl) (by kernel_rfl) (by kernel_rfl) (fun _ _ _ h => h) (Or.inl ⟨by rfl, ?_⟩) hS0 ?_
  rotate_left
  · intro w hSw; obtain ⟨s0, s1, s2⟩ := hSw; first | (go_simp; done) | (go_simp; with_reducible rfl)
  try simp only [List.getElem_toArray, List.getElem_cons_zero, List.getElem_cons_succ, Act.put, List.setIfInBounds_toArray, List.set_cons_zero, List.set_cons_succ]
  refine wpAnyH_take (i := 1) (v := ?_) rfl (by kernel_rfl) (by kernel_rfl) (by kernel_rfl) (fun _ _ _ h => h) (Or.inl ⟨by rfl, ?_⟩) hS0 ?_
  rotate_left
  · intro w hSw; obtain ⟨s0, s1, s2⟩ := hSw; first | (go_simp; done) | (go_simp; with_reducible rfl)
  try simp only [List.getElem_toArray, List.getElem_cons_zero, List.getElem_cons_succ, Act.put, List.setIfInBounds_toArray, List.set_cons_zero, List.set_cons_succ]
  refine wpAnyH_take (i := 2) (v := ?_) rfl (by kernel_rfl) (by kernel_rfl) (by kernel_rfl) (fun _ _ _ h => h) (Or.inl ⟨by rfl, ?_⟩) hS0 ?_
  rotate_left
  · intro w hSw; obtain ⟨s0, s1, s2⟩ := hSw; first | (go_simp; done) | (go_simp; with_reducible rfl)
  try simp only [List.getElem_toArray, List.getElem_cons_zero, List.getElem_cons_succ, Act.put, List.setIfInBounds_toArray, List.set_cons_zero, List.set_cons_succ]
  refine wpAnyH_take (i := 3) (v := ?_) rfl (by kernel_rfl) (by kernel_rfl) (by kernel_rfl) (fun _ _ _ h => h) (Or.inl ⟨by rfl, ?_⟩) hS0 ?_
  rotate_left
  · intro w hSw; obtain ⟨s0, s1, s2⟩ := hSw; first | (go_simp; done) | (go_simp; with_reducible rfl)
  try simp only [List.getElem_toArray, List.getElem_cons_zero, List.getElem_cons_succ, Act.put, List.setIfInBounds_toArray, List.set_cons_zero, List.set_cons_succ]
  refine wpAnyH_take (i := 4) (v := ?_) rfl (by kernel_rfl) (by kernel_rfl) (by kernel_rfl) (fun _ _ _ h => h) (Or.inl ⟨by rfl, ?_⟩) hS0 ?_
  rotate_left
  · intro w hSw; obtain ⟨s0, s1, s2⟩ := hSw; first | (go_simp; done) | (go_simp; with_reducible rfl)
  try simp only [List.getElem_toArray, List.getElem_cons_zero, List.getElem_cons_succ, Act.put, List.setIfInBounds_toArray, List.set_cons_zero, List.set_cons_succ]
  refine wpAnyH_take (i := 5) (v := ?_) rfl (by kernel_rfl) (by kernel_rfl) (by kernel_rfl) (fun _ _ _ h => h) (Or.inl ⟨by rfl, ?_⟩) hS0 ?_
  rotate_left
  · intro w hSw; obtain ⟨s0, s1, s2⟩ := hSw; first | (go_simp; done) | (go_simp; with_reducible rfl)
  try simp only [List.getElem_toArray, List.getElem_cons_zero, List.getElem_cons_succ, Act.put, List.setIfInBounds_toArray, List.set_cons_zero, List.set_cons_succ]
  refine wpAnyH_take (i := 6) (v := ?_) rfl (by kernel_rfl) (by kernel_rfl) (by kernel_rfl) (fun _ _ _ h => h) (Or.inl ⟨by rfl, ?_⟩) hS0 ?_
  rotate_left
  · intro w hSw; obtain ⟨s0, s1, s2⟩ := hSw; first | (go_simp; done) | (go_simp; with_reducible rfl)
  try simp only [List.getElem_toArray, List.getElem_cons_zero, List.getElem_cons_succ, Act.put, List.setIfInBounds_toArray, List.set_cons_zero, List.set_cons_succ]
  refine wpAnyH_take (i := 7) (v := ?_) rfl (by kernel_rfl) (by kernel_rfl) (by kernel_rfl) (fun _ _ _ h => h) (Or.inl ⟨by rfl, ?_⟩) hS0 ?_
  rotate_left
  · intro w hSw; obtain ⟨s0, s1, s2⟩ := hSw; first | (go_simp; done) | (go_simp; with_reducible rfl)
  try simp only [List.getElem_toArray, List.getElem_cons_zero, List.getElem_cons_succ, Act.put, List.setIfInBounds_toArray, List.set_cons_zero, List.set_cons_succ]
  refine wpAnyH_take (i := 8) (v := ?_) rfl (by kernel_rfl) (by kernel_rfl) (by kernel_rfl) (fun _ _ _ h => h) (Or.inl ⟨by rfl, ?_⟩) hS0 ?_
  rotate_left
  · intro w hSw; obtain ⟨s0, s1, s2⟩ := hSw; first | (go_simp; done) | (go_simp; with_reducible rfl)
  try simp only [List.getElem_toArray, List.getElem_cons_zero, List.getElem_cons_succ, Act.put, List.setIfInBounds_toArray, List.set_cons_zero, List.set_cons_succ]
  refine wpAnyH_take (i := 9) (v := ?_) rfl (by kernel_rfl) (by kernel_rfl) (by kernel_rfl) (fun _ _ _ h => h) (Or.inl ⟨by rfl, ?_⟩) hS0 ?_
  rotate_left
  · intro w hSw; obtain ⟨s0, s1, s2⟩ := hSw; first | (go_simp; done) | (go_simp; with_reducible rfl)
  try simp only [List.getElem_toArray, List.getElem_cons_zero, List.getElem_cons_succ, Act.put, List.setIfInBounds_toArray, List.set_cons_zero, List.set_cons_succ]
  refine wpAnyH_take (i := 10) (v := ?_) rfl (by kernel_rfl) (by kernel_rfl) (by kernel_rfl) (fun _ _ _ h => h) (Or.inl ⟨by rfl, ?_⟩) hS0 ?_
  rotate_left
  · intro w hSw; obtain ⟨s0, s1, s2⟩ := hSw; first | (go_simp; done) | (go_simp; with_reducible rfl)
  try simp only [List.getElem_toArray, List.getElem_cons_zero, List.getElem_cons_succ, Act.put, List.setIfInBounds_toArray, List.set_cons_zero, List.set_cons_succ]
  refine wpAnyH_take (i := 11) (v := ?_) rfl (by kernel_rfl) (by kernel_rfl) (by kernel_rfl) (fun _ _ _ h => h) (Or.inl ⟨by rfl, ?_⟩) hS0 ?_
  rotate_left
  · intro w hSw; obtain ⟨s0, s1, s2⟩ := hSw; first | (go_simp; done) | (go_simp; with_reducible rfl)
  try simp only [List.getElem_toArray, List.getElem_cons_zero, List.getElem_cons_succ, Act.put, List.setIfInBounds_toArray, List.set_cons_zero, List.set_cons_succ]
  refine wpAnyH_take (i := 12) (v := ?_) rfl (by kernel_rfl) (by kernel_rfl) (by kernel_rfl) (fun _ _ _ h => h) (Or.inl ⟨by rfl, ?_⟩) hS0 ?_
  rotate_left
  · intro w hSw; obtain ⟨s0, s1, s2⟩ := hSw; first | (go_simp; done) | (go_simp; with_reducible rfl)
  try simp only [List.getElem_toArray, List.getElem_cons_zero, List.getElem_cons_succ, Act.put, List.setIfInBounds_toArray, List.set_cons_zero, List.set_cons_succ]
  refine wpAnyH_take (i := 13) (v := ?_) rfl (by kernel_rfl) (by kernel_rfl) (by kernel_rfl) (fun _ _ _ h => h) (Or.inl ⟨by rfl, ?_⟩) hS0 ?_
  rotate_left
  · intro w hSw; obtain ⟨s0, s1, s2⟩ := hSw; first | (go_simp; done) | (go_simp; with_reducible rfl)
  try simp only [List.getElem_toArray, List.getElem_cons_zero, List.getElem_cons_succ, Act.put, List.setIfInBounds_toArray, List.set_cons_zero, List.set_cons_succ]
  refine wpAnyH_take (i := 14) (v := ?_) rfl (by kernel_rfl) (by kernel_rfl) (by kernel_rfl) (fun _ _ _ h => h) (Or.inl ⟨by rfl, ?_⟩) hS0 ?_
  rotate_left
  · intro w hSw; obtain ⟨s0, s1, s2⟩ := hSw; first | (go_simp; done) | (go_simp; with_reducible rfl)
  try simp only [List.getElem_toArray, List.getElem_cons_zero, List.getElem_cons_succ, Act.put, List.setIfInBounds_toArray, List.set_cons_zero, List.set_cons_succ]
  refine wpAnyH_take (i := 15) (v := ?_) rfl (by kernel_rfl) (by kernel_rfl) (by kernel_rfl) (fun _ _ _ h => h) (Or.inl ⟨by rfl, ?_⟩) hS0 ?_
  rotate_left
  · intro w hSw; obtain ⟨s0, s1, s2⟩ := hSw; first | (go_simp; done) | (go_simp; with_reducible rfl)
  try simp only [List.getElem_toArray, List.getElem_cons_zero, List.getElem_cons_succ, Act.put, List.setIfInBounds_toArray, List.set_cons_zero, List.set_cons_succ]
  refine wpAnyH_ready (rs := [16]) (by kernel_rfl) (by simp) ?_
  refine AllReadyH.cons rfl (fun K hK => ?_) AllReadyH.nil
  try simp only [List.getElem_toArray, List.getElem_cons_zero, List.getElem_cons_succ]
  go_simp
  refine HC.out.mono ?_
  rintro e w2 ⟨u, rfl, hown, hbel⟩
  have hS1 : w2.cell? ⟨g, 1, none⟩ = some (.slice (some ⟨b, o, none⟩) l.length c) ∧ w2.cell? ⟨b, o + k * 2, none⟩ = some (.int .i64 x.dst) ∧ w2.cell? ⟨b, o + k * 2 + 1, none⟩ = some (.slice B x.raw.length d) := ⟨(hbel.cell (p := ⟨g, 1, none⟩) (block_lt hS0.1)).trans hS0.1, (hbel.cell (p := ⟨b, _, none⟩) (block_lt hS0.2.1)).trans hS0.2.1, (hbel.cell (p := ⟨b, _, none⟩) (block_lt hS0.2.2)).trans hS0.2.2⟩
  have HO := Lib.hid hown
  have HB := Lib.hid hbel
  clear hown hbel HC hS0
  try (go_wp2_with fail)
  refine hK.out _ _ hS1 (fun hHeld => ?_)
  clear hK K
  try simp only [List.getElem_toArray, List.getElem_cons_zero, List.getElem_cons_succ, Act.put, List.setIfInBounds_toArray, List.set_cons_zero, List.set_cons_succ]
  refine wpAnyH_take (i := 17) (v := ?_) rfl (by kernel_rfl) (by kernel_rfl) (by kernel_rfl) (fun _ _ _ h => h) (Or.inl ⟨by rfl, ?_⟩) hS1 ?_
  rotate_left
  · intro w hSw; obtain ⟨s0, s1, s2⟩ := hSw; first | (go_simp; done) | (go_simp; with_reducible rfl)
  try simp only [List.getElem_toArray, List.getElem_cons_zero, List.getElem_cons_succ, Act.put, List.setIfInBounds_toArray, List.set_cons_zero, List.set_cons_succ]
  refine wpAnyH_take (i := 18) (v := ?_) rfl (by kernel_rfl) (by kernel_rfl) (by kernel_rfl) (fun _ _ _ h => h) (Or.inl ⟨by rfl, ?_⟩) hS1 ?_
  rotate_left
  · intro w hSw; obtain ⟨s0, s1, s2⟩ := hSw; first | (go_simp; done) | (go_simp; with_reducible rfl)
  try simp only [List.getElem_toArray, List.getElem_cons_zero, List.getElem_cons_succ, Act.put, List.setIfInBounds_toArray, List.set_cons_zero, List.set_cons_succ]
  refine wpAnyH_take (i := 19) (v := ?_) rfl (by kernel_rfl) (by kernel_rfl) (by kernel_rfl) (fun _ _ _ h => h) (Or.inl ⟨by rfl, ?_⟩) hS1 ?_
  rotate_left
  · intro w hSw; obtain ⟨s0, s1, s2⟩ := hSw; first | (go_simp; done) | (go_simp; with_reducible rfl)
  try simp only [List.getElem_toArray, List.getElem_cons_zero, List.getElem_cons_succ, Act.put, List.setIfInBounds_toArray, List.set_cons_zero, List.set_cons_succ]
  refine wpAnyH_done (by kernel_rfl) ?_ _
  (go_wp2_with fail; go_ret3; exact ⟨_, rfl, HO.out, (Below.refl _ _).drew.trans HB.out⟩)

theorem new_sl (w : World) (dst : Int) (u : Value) : Sl (w.alloc (.cells #[.int .i64 dst, u] 67)) 2 (some ⟨w.heap.size, 0, none⟩) 1 [.int .i64 dst, u] := by
  refine ⟨rfl, fun _ => ⟨w.heap.size, 0, rfl, fun j z hz => ?_⟩⟩
  rw [Nat.zero_add, (Blk.new w 67 _).cell]
  simpa using hz

theorem own_set {base size n : Nat} {e : TypeId} {u : Value} {xs : List Value} {w : World} (h : w.ownsRow base e size u n xs) {p : Addr} (hn : u.ownBlock ≠ some p.block) (z : Value) : (w.setCell p z).ownsRow base e size u n xs :=
  own_kp (S := fun k => k = p.block) h ((Kp.refl (fun k => k = p.block) w).set (p := p) (.inl rfl) z) (fun b hb e => hn (by rw [hb, e]))

/-- What Send leaves where there is room. -/
def Sent (w : World) (g : Nat) (v : Value) (room : Int) (l : List Ms) (dst : Int) (raw : List Int) (w' : World) : Prop :=
  ∃ v' u, Nt w' g v' room (l ++ [⟨dst, u, raw⟩]) ∧ Kp (fun k => k = g ∨ v.ownBlock = some k) w w' ∧ (v'.ownBlock = v.ownBlock ∨ ∀ b, v'.ownBlock = some b → w.heap.size ≤ b) ∧ (∀ b, u.ownBlock = some b → w.heap.size ≤ b)

variable {w g v room l} in
theorem sent {w2 w4 : World} {u v' : Value} {dst : Int} {raw : List Int} {ob : Obj} (h : Nt w g v room l) (hown : w2.ownsRow w.heap.size 5 1 u raw.length (bcs raw)) (hb : Below w.heap.size w w2)
    (hgrow : (w2.alloc ob).grownBy w4 v.ownBlock) (hown4 : w4.ownsRow 0 67 2 v' (l.length + 1) (l.flatMap Ms.cells ++ [.int .i64 dst, u])) (hat : v'.ownBlock = v.ownBlock ∨ v'.ownBlock = some (w2.alloc ob).heap.size) :
    Sent w g v room l dst raw (w4.setCell ⟨g, 1, none⟩ v') := by
  have hvg : v.ownBlock ≠ some g := own_ne h.own h.blk (by decide)
  have hk3 : Kp (fun k => k = g ∨ v.ownBlock = some k) w (w2.alloc ob) := ((Kp.refl _ w).below hb).alloc _
  have hk4 : Kp (fun k => k = g ∨ v.ownBlock = some k) w w4 := hk3.grown hgrow (fun k e => .inl (.inr e))
  have hk5 : Kp (fun k => k = g ∨ v.ownBlock = some k) w (w4.setCell ⟨g, 1, none⟩ v') := hk4.set (.inl (.inl rfl)) _
  have hB4 : Blk w4 g 70 #[.int .i64 room, v] := ((h.blk.below hb).alloc _).grown hgrow hvg
  have hv4 : v'.ownBlock ≠ some g := own_ne hown4 hB4 (by decide)
  have hu : w4.ownsRow w.heap.size 5 1 u raw.length (bcs raw) := by
    have h3 : (w2.alloc ob).ownsRow w.heap.size 5 1 u raw.length (bcs raw) := own_kp (S := fun _ => False) hown ((Kp.refl _ _).alloc _) (fun _ _ e => e)
    refine own_kp (S := fun k => v.ownBlock = some k) h3 ((Kp.refl _ _).grown hgrow (fun k e => .inl e)) (fun b hb' e => ?_)
    have h4 := (h.own.lt b e).2
    have h5 := (hown.lt b hb').1
    omega
  refine ⟨v', u, ⟨?_, ?_, fun x hx => ?_⟩, hk5, ?_, fun b hb' => (hu.lt b hb').1⟩
  · have := hB4.set_ 1 v'
    simpa using this
  · have := own_set hown4 (p := ⟨g, 1, none⟩) hv4 v'
    simpa [List.flatMap_append, Ms.cells] using this
  · rcases List.mem_append.1 hx with hx | hx
    · refine own_kp (h.msg x hx) hk5 (fun b hb' e => ?_)
      rcases e with rfl | e
      · exact own_ne (h.msg x hx) h.blk (by decide) hb'
      · exact own_ne2 (h.msg x hx) h.own (by decide) b hb' e
    · obtain rfl := List.mem_singleton.1 hx
      exact own_base (own_set hu (p := ⟨g, 1, none⟩) (own_ne hu hB4 (by decide)) v') (Nat.zero_le _)
  · rcases hat with e | e
    · exact .inl e
    · refine .inr fun b hb' => ?_
      rw [e] at hb'
      injection hb' with hb'
      have := hb.size
      simp at hb'
      omega

theorem send_full (h : Nt w g v room l) (hr : (l.length : Int) = room) (dst : Int) (b : Value) :
    Calls Try.prog 14 #[.pointer (some ⟨g, 0, none⟩), .int .i64 dst, b] w fun e w' => e = .returned (.int .i64 30) ∧ Below w.heap.size w w' := by
  obtain ⟨A, c, rfl, _⟩ := h.slice
  subst hr
  have c0 : w.cell? ⟨g, 0, none⟩ = some (.int .i64 l.length) := (h.blk.cell 0).trans rfl
  have c1 : w.cell? ⟨g, 1, none⟩ = some (.slice A l.length c) := (h.blk.cell 1).trans rfl
  clear h
  go_enter Try.func14, Try.ntmps14
  go_wp2
  go_quiet (fail)
  go_wp2
  go_ret
  exact ⟨rfl, below_drewN (Below.refl _ _) _⟩

set_option linter.unusedSimpArgs false in
set_option maxRecDepth 100000 in
theorem send_ok (h : Nt w g v room l) (hr : (l.length : Int) ≠ room) (hl : l.length < 7000000000000) (dst : Int) (B : Option Addr) (d : Nat) (raw : List Int) (hs : Sl w 1 B raw.length (bcs raw)) (hn : B = none → raw.length = 0 ∧ d = 0) (hb : raw.length ≤ 140737488355328) :
    Calls Try.prog 14 #[.pointer (some ⟨g, 0, none⟩), .int .i64 dst, .slice B raw.length d] w fun e w' => e = .returned (.int .i64 0) ∧ Sent w g v room l dst raw w' := by
  have HN := Lib.hid h
  obtain ⟨A, c, rfl, _⟩ := h.slice
  have c0 : w.cell? ⟨g, 0, none⟩ = some (.int .i64 room) := (h.blk.cell 0).trans rfl
  have c1 : w.cell? ⟨g, 1, none⟩ = some (.slice A l.length c) := (h.blk.cell 1).trans rfl
  have hvg : (Value.slice A l.length c).ownBlock ≠ some g := own_ne h.own h.blk (by decide)
  have hne : ((l.length : Int) == room) = false := beq_eq_false_iff_ne.2 hr
  have HC := Lib.hid (fun k => SlBytes.clone B raw.length d (bcs raw) (w.drewN k) (hs.drewN k) (bcs_one _) (by omega) hn)
  obtain ⟨i0, hi, hz0, hz1, hz2⟩ := info_parts SlOne.info
  have HI0 := Lib.hid hi
  have HV := Lib.hid hvg
  clear h hs hn hi hvg
  go_enter Try.func14, Try.ntmps14
  go_wp2
  go_quiet (fail)
  go_wp2_with fail

  refine wp_region_held_drew (S := fun _ => True) (by kernel_rfl) trivial (fun hHeld => ?_)
  refine wpAnyH_take (i := 0) (v := ?_) rfl (by kernel_rfl) (by kernel_rfl) (by kernel_rfl) (fun _ _ _ h => h) (Or.inl ⟨by rfl, ?_⟩) trivial ?_
  rotate_left
  · intro w hSw; first | (go_simp; done) | (go_simp; with_reducible rfl)
  try simp only [List.getElem_toArray, List.getElem_cons_zero, List.getElem_cons_succ, Act.put, List.setIfInBounds_toArray, List.set_cons_zero, List.set_cons_succ]
  refine wpAnyH_take (i := 1) (v := ?_) rfl (by kernel_rfl) (by kernel_rfl) (by kernel_rfl) (fun _ _ _ h => h) (Or.inl ⟨by rfl, ?_⟩) trivial ?_
  rotate_left
  · intro w hSw; first | (go_simp; done) | (go_simp; with_reducible rfl)
  try simp only [List.getElem_toArray, List.getElem_cons_zero, List.getElem_cons_succ, Act.put, List.setIfInBounds_toArray, List.set_cons_zero, List.set_cons_succ]
  refine wpAnyH_take (i := 2) (v := ?_) rfl (by kernel_rfl) (by kernel_rfl) (by kernel_rfl) (fun _ _ _ h => h) (Or.inl ⟨by rfl, ?_⟩) trivial ?_
  rotate_left
  · intro w hSw; first | (go_simp; done) | (go_simp; with_reducible rfl)
  try simp only [List.getElem_toArray, List.getElem_cons_zero, List.getElem_cons_succ, Act.put, List.setIfInBounds_toArray, List.set_cons_zero, List.set_cons_succ]
  refine wpAnyH_take (i := 3) (v := ?_) rfl (by kernel_rfl) (by kernel_rfl) (by kernel_rfl) (fun _ _ _ h => h) (Or.inl ⟨by rfl, ?_⟩) trivial ?_
  rotate_left
  · intro w hSw; first | (go_simp; done) | (go_simp; with_reducible rfl)
  try simp only [List.getElem_toArray, List.getElem_cons_zero, List.getElem_cons_succ, Act.put, List.setIfInBounds_toArray, List.set_cons_zero, List.set_cons_succ]
  refine wpAnyH_take (i := 5) (v := ?_) rfl (by kernel_rfl) (by kernel_rfl) (by kernel_rfl) (fun _ _ _ h => h) (Or.inl ⟨by rfl, ?_⟩) trivial ?_
  rotate_left
  · intro w hSw; first | (go_simp; done) | (go_simp; with_reducible rfl)
  try simp only [List.getElem_toArray, List.getElem_cons_zero, List.getElem_cons_succ, Act.put, List.setIfInBounds_toArray, List.set_cons_zero, List.set_cons_succ]
  refine wpAnyH_take (i := 6) (v := ?_) rfl (by kernel_rfl) (by kernel_rfl) (by kernel_rfl) (fun _ _ _ h => h) (Or.inl ⟨by rfl, ?_⟩) trivial ?_
  rotate_left
  · intro w hSw; first | (go_simp; done) | (go_simp; with_reducible rfl)
  try simp only [List.getElem_toArray, List.getElem_cons_zero, List.getElem_cons_succ, Act.put, List.setIfInBounds_toArray, List.set_cons_zero, List.set_cons_succ]
  refine wpAnyH_ready (rs := [4, 7]) (by kernel_rfl) (by simp) ?_
  refine AllReadyH.cons rfl (fun K hK => ?_) (AllReadyH.cons rfl (fun K hK => ?_) AllReadyH.nil)
  · skip
    try simp only [List.getElem_toArray, List.getElem_cons_zero, List.getElem_cons_succ]
    go_simp
    refine hK.out _ _ trivial (fun hHeld => ?_)
    clear hK K
    try simp only [List.getElem_toArray, List.getElem_cons_zero, List.getElem_cons_succ, Act.put, List.setIfInBounds_toArray, List.set_cons_zero, List.set_cons_succ]
    refine wpAnyH_ready (rs := [7]) (by kernel_rfl) (by simp) ?_
    refine AllReadyH.cons rfl (fun K hK => ?_) AllReadyH.nil
    try simp only [List.getElem_toArray, List.getElem_cons_zero, List.getElem_cons_succ]
    go_simp
    refine (HC.out _).mono ?_
    rintro e w2 ⟨u, rfl, hown, hbel⟩
    have c2 : w2.cell? ⟨g, 1, none⟩ = some (.slice A l.length c) := (hbel.cell (p := ⟨g, 1, none⟩) (block_lt c1)).trans c1
    obtain ⟨U, cu, rfl, _, _, _, _, _⟩ := Sl.of_own hown
    have c3 : (w2.alloc (.cells #[.int .i64 dst, .slice U raw.length cu] 67)).cell? ⟨g, 1, none⟩ = some (.slice A l.length c) := (World.cell?_alloc_lt w2 _ _ (block_lt c2)).trans c2
    have HO := Lib.hid hown
    have HB : Hid (Below w.heap.size w w2) := (below_drewN (Below.refl _ _) _).trans hbel
    clear hown hbel
    try (go_wp2_with fail)
    refine hK.out _ _ trivial (fun hHeld => ?_)
    clear hK K
    try simp only [List.getElem_toArray, List.getElem_cons_zero, List.getElem_cons_succ, Act.put, List.setIfInBounds_toArray, List.set_cons_zero, List.set_cons_succ]
    refine wpAnyH_take (i := 8) (v := ?_) rfl (by kernel_rfl) (by kernel_rfl) (by kernel_rfl) (fun _ _ _ h => h) (Or.inl ⟨by rfl, ?_⟩) trivial ?_
    rotate_left
    · intro w hSw; first | (go_simp; done) | (go_simp; with_reducible rfl)
    try simp only [List.getElem_toArray, List.getElem_cons_zero, List.getElem_cons_succ, Act.put, List.setIfInBounds_toArray, List.set_cons_zero, List.set_cons_succ]
    refine wpAnyH_ready (rs := [9]) (by kernel_rfl) (by simp) ?_
    refine AllReadyH.cons rfl (fun K hK => ?_) AllReadyH.nil
    try simp only [List.getElem_toArray, List.getElem_cons_zero, List.getElem_cons_succ]
    go_simp
    refine hK.out _ _ trivial (fun hHeld => ?_)
    clear hK K
    try simp only [List.getElem_toArray, List.getElem_cons_zero, List.getElem_cons_succ, Act.put, List.setIfInBounds_toArray, List.set_cons_zero, List.set_cons_succ]
    refine wpAnyH_ready (rs := [10]) (by kernel_rfl) (by simp) ?_
    refine AllReadyH.cons rfl (fun K hK => ?_) AllReadyH.nil
    try simp only [List.getElem_toArray, List.getElem_cons_zero, List.getElem_cons_succ]
    refine wp_append_sl _ (.tmp 21) (.tmp 26) 65 rfl 0 67 i0 _ 2 32 Try.underlying65 HI0.out hz0 hz1 hz2 rfl (by decide) (.slice A l.length c) l.length (l.flatMap Ms.cells) rfl (own_kp (S := fun _ => False) HN.out.own (((Kp.refl _ w).below HB.out).alloc _) (fun _ _ e => e)) (some ⟨w2.heap.size, 0, none⟩) 1 1 [.int .i64 dst, .slice U raw.length cu] rfl (new_sl w2 dst _) (by simp [Value.oneCell']) (by unfold maxLen; omega) (by omega) (Nat.zero_le _) ?_
    intro v' w4 hown4 hgrow4 hat4
    have f1 : w4.frozen? ⟨g, 1, none⟩ = false := (((HN.out.blk.below HB.out).alloc _).grown hgrow4 HV.out).frozen 1
    have c4 : w4.cell? ⟨g, 1, none⟩ = some (.slice A l.length c) := ((((HN.out.blk.below HB.out).alloc _).grown hgrow4 HV.out).cell 1).trans rfl
    have HS4 := Lib.hid (sent HN.out HO.out HB.out hgrow4 hown4 hat4)
    obtain ⟨A', c', rfl, _, _, _, _, _⟩ := Sl.of_own hown4
    clear hown4 hgrow4 hat4
    try (go_wp2_with fail)
    refine hK.out _ _ trivial (fun hHeld => ?_)
    clear hK K
    try simp only [List.getElem_toArray, List.getElem_cons_zero, List.getElem_cons_succ, Act.put, List.setIfInBounds_toArray, List.set_cons_zero, List.set_cons_succ]
    refine wpAnyH_take (i := 11) (v := ?_) rfl (by kernel_rfl) (by kernel_rfl) (by kernel_rfl) (fun _ _ _ h => h) (Or.inl ⟨by rfl, ?_⟩) trivial ?_
    rotate_left
    · intro w hSw; first | (go_simp; done) | (go_simp; with_reducible rfl)
    try simp only [List.getElem_toArray, List.getElem_cons_zero, List.getElem_cons_succ, Act.put, List.setIfInBounds_toArray, List.set_cons_zero, List.set_cons_succ]
    refine wpAnyH_take (i := 12) (v := ?_) rfl (by kernel_rfl) (by kernel_rfl) (by kernel_rfl) (fun _ _ _ h => h) (Or.inl ⟨by rfl, ?_⟩) trivial ?_
    rotate_left
    · intro w hSw; first | (go_simp; done) | (go_simp; with_reducible rfl)
    try simp only [List.getElem_toArray, List.getElem_cons_zero, List.getElem_cons_succ, Act.put, List.setIfInBounds_toArray, List.set_cons_zero, List.set_cons_succ]
    refine wpAnyH_ready (rs := [13]) (by kernel_rfl) (by simp) ?_
    refine AllReadyH.cons rfl (fun K hK => ?_) AllReadyH.nil
    try simp only [List.getElem_toArray, List.getElem_cons_zero, List.getElem_cons_succ]
    go_simp
    refine hK.out _ _ trivial (fun hHeld => ?_)
    clear hK K
    try simp only [List.getElem_toArray, List.getElem_cons_zero, List.getElem_cons_succ, Act.put, List.setIfInBounds_toArray, List.set_cons_zero, List.set_cons_succ]
    refine wpAnyH_done (by kernel_rfl) ?_ _
    (go_wp2_with fail; go_ret; exact ⟨rfl, HS4.out⟩)
  · skip
    try simp only [List.getElem_toArray, List.getElem_cons_zero, List.getElem_cons_succ]
    go_simp
    refine (HC.out _).mono ?_
    rintro e w2 ⟨u, rfl, hown, hbel⟩
    have c2 : w2.cell? ⟨g, 1, none⟩ = some (.slice A l.length c) := (hbel.cell (p := ⟨g, 1, none⟩) (block_lt c1)).trans c1
    obtain ⟨U, cu, rfl, _, _, _, _, _⟩ := Sl.of_own hown
    have c3 : (w2.alloc (.cells #[.int .i64 dst, .slice U raw.length cu] 67)).cell? ⟨g, 1, none⟩ = some (.slice A l.length c) := (World.cell?_alloc_lt w2 _ _ (block_lt c2)).trans c2
    have HO := Lib.hid hown
    have HB : Hid (Below w.heap.size w w2) := (below_drewN (Below.refl _ _) _).trans hbel
    clear hown hbel
    try (go_wp2_with fail)
    refine hK.out _ _ trivial (fun hHeld => ?_)
    clear hK K
    try simp only [List.getElem_toArray, List.getElem_cons_zero, List.getElem_cons_succ, Act.put, List.setIfInBounds_toArray, List.set_cons_zero, List.set_cons_succ]
    refine wpAnyH_take (i := 8) (v := ?_) rfl (by kernel_rfl) (by kernel_rfl) (by kernel_rfl) (fun _ _ _ h => h) (Or.inl ⟨by rfl, ?_⟩) trivial ?_
    rotate_left
    · intro w hSw; first | (go_simp; done) | (go_simp; with_reducible rfl)
    try simp only [List.getElem_toArray, List.getElem_cons_zero, List.getElem_cons_succ, Act.put, List.setIfInBounds_toArray, List.set_cons_zero, List.set_cons_succ]
    refine wpAnyH_ready (rs := [4, 9]) (by kernel_rfl) (by simp) ?_
    refine AllReadyH.cons rfl (fun K hK => ?_) (AllReadyH.cons rfl (fun K hK => ?_) AllReadyH.nil)
    · skip
      try simp only [List.getElem_toArray, List.getElem_cons_zero, List.getElem_cons_succ]
      go_simp
      refine hK.out _ _ trivial (fun hHeld => ?_)
      clear hK K
      try simp only [List.getElem_toArray, List.getElem_cons_zero, List.getElem_cons_succ, Act.put, List.setIfInBounds_toArray, List.set_cons_zero, List.set_cons_succ]
      refine wpAnyH_ready (rs := [9]) (by kernel_rfl) (by simp) ?_
      refine AllReadyH.cons rfl (fun K hK => ?_) AllReadyH.nil
      try simp only [List.getElem_toArray, List.getElem_cons_zero, List.getElem_cons_succ]
      go_simp
      refine hK.out _ _ trivial (fun hHeld => ?_)
      clear hK K
      try simp only [List.getElem_toArray, List.getElem_cons_zero, List.getElem_cons_succ, Act.put, List.setIfInBounds_toArray, List.set_cons_zero, List.set_cons_succ]
      refine wpAnyH_ready (rs := [10]) (by kernel_rfl) (by simp) ?_
      refine AllReadyH.cons rfl (fun K hK => ?_) AllReadyH.nil
      try simp only [List.getElem_toArray, List.getElem_cons_zero, List.getElem_cons_succ]
      refine wp_append_sl _ (.tmp 21) (.tmp 26) 65 rfl 0 67 i0 _ 2 32 Try.underlying65 HI0.out hz0 hz1 hz2 rfl (by decide) (.slice A l.length c) l.length (l.flatMap Ms.cells) rfl (own_kp (S := fun _ => False) HN.out.own (((Kp.refl _ w).below HB.out).alloc _) (fun _ _ e => e)) (some ⟨w2.heap.size, 0, none⟩) 1 1 [.int .i64 dst, .slice U raw.length cu] rfl (new_sl w2 dst _) (by simp [Value.oneCell']) (by unfold maxLen; omega) (by omega) (Nat.zero_le _) ?_
      intro v' w4 hown4 hgrow4 hat4
      have f1 : w4.frozen? ⟨g, 1, none⟩ = false := (((HN.out.blk.below HB.out).alloc _).grown hgrow4 HV.out).frozen 1
      have c4 : w4.cell? ⟨g, 1, none⟩ = some (.slice A l.length c) := ((((HN.out.blk.below HB.out).alloc _).grown hgrow4 HV.out).cell 1).trans rfl
      have HS4 := Lib.hid (sent HN.out HO.out HB.out hgrow4 hown4 hat4)
      obtain ⟨A', c', rfl, _, _, _, _, _⟩ := Sl.of_own hown4
      clear hown4 hgrow4 hat4
      try (go_wp2_with fail)
      refine hK.out _ _ trivial (fun hHeld => ?_)
      clear hK K
      try simp only [List.getElem_toArray, List.getElem_cons_zero, List.getElem_cons_succ, Act.put, List.setIfInBounds_toArray, List.set_cons_zero, List.set_cons_succ]
      refine wpAnyH_take (i := 11) (v := ?_) rfl (by kernel_rfl) (by kernel_rfl) (by kernel_rfl) (fun _ _ _ h => h) (Or.inl ⟨by rfl, ?_⟩) trivial ?_
      rotate_left
      · intro w hSw; first | (go_simp; done) | (go_simp; with_reducible rfl)
      try simp only [List.getElem_toArray, List.getElem_cons_zero, List.getElem_cons_succ, Act.put, List.setIfInBounds_toArray, List.set_cons_zero, List.set_cons_succ]
      refine wpAnyH_take (i := 12) (v := ?_) rfl (by kernel_rfl) (by kernel_rfl) (by kernel_rfl) (fun _ _ _ h => h) (Or.inl ⟨by rfl, ?_⟩) trivial ?_
      rotate_left
      · intro w hSw; first | (go_simp; done) | (go_simp; with_reducible rfl)
      try simp only [List.getElem_toArray, List.getElem_cons_zero, List.getElem_cons_succ, Act.put, List.setIfInBounds_toArray, List.set_cons_zero, List.set_cons_succ]
      refine wpAnyH_ready (rs := [13]) (by kernel_rfl) (by simp) ?_
      refine AllReadyH.cons rfl (fun K hK => ?_) AllReadyH.nil
      try simp only [List.getElem_toArray, List.getElem_cons_zero, List.getElem_cons_succ]
      go_simp
      refine hK.out _ _ trivial (fun hHeld => ?_)
      clear hK K
      try simp only [List.getElem_toArray, List.getElem_cons_zero, List.getElem_cons_succ, Act.put, List.setIfInBounds_toArray, List.set_cons_zero, List.set_cons_succ]
      refine wpAnyH_done (by kernel_rfl) ?_ _
      (go_wp2_with fail; go_ret; exact ⟨rfl, HS4.out⟩)
    · skip
      try simp only [List.getElem_toArray, List.getElem_cons_zero, List.getElem_cons_succ]
      go_simp
      refine hK.out _ _ trivial (fun hHeld => ?_)
      clear hK K
      try simp only [List.getElem_toArray, List.getElem_cons_zero, List.getElem_cons_succ, Act.put, List.setIfInBounds_toArray, List.set_cons_zero, List.set_cons_succ]
      refine wpAnyH_ready (rs := [4]) (by kernel_rfl) (by simp) ?_
      refine AllReadyH.cons rfl (fun K hK => ?_) AllReadyH.nil
      try simp only [List.getElem_toArray, List.getElem_cons_zero, List.getElem_cons_succ]
      go_simp
      refine hK.out _ _ trivial (fun hHeld => ?_)
      clear hK K
      try simp only [List.getElem_toArray, List.getElem_cons_zero, List.getElem_cons_succ, Act.put, List.setIfInBounds_toArray, List.set_cons_zero, List.set_cons_succ]
      refine wpAnyH_ready (rs := [10]) (by kernel_rfl) (by simp) ?_
      refine AllReadyH.cons rfl (fun K hK => ?_) AllReadyH.nil
      try simp only [List.getElem_toArray, List.getElem_cons_zero, List.getElem_cons_succ]
      refine wp_append_sl _ (.tmp 21) (.tmp 26) 65 rfl 0 67 i0 _ 2 32 Try.underlying65 HI0.out hz0 hz1 hz2 rfl (by decide) (.slice A l.length c) l.length (l.flatMap Ms.cells) rfl (own_kp (S := fun _ => False) HN.out.own (((Kp.refl _ w).below HB.out).alloc _) (fun _ _ e => e)) (some ⟨w2.heap.size, 0, none⟩) 1 1 [.int .i64 dst, .slice U raw.length cu] rfl (new_sl w2 dst _) (by simp [Value.oneCell']) (by unfold maxLen; omega) (by omega) (Nat.zero_le _) ?_
      intro v' w4 hown4 hgrow4 hat4
      have f1 : w4.frozen? ⟨g, 1, none⟩ = false := (((HN.out.blk.below HB.out).alloc _).grown hgrow4 HV.out).frozen 1
      have c4 : w4.cell? ⟨g, 1, none⟩ = some (.slice A l.length c) := ((((HN.out.blk.below HB.out).alloc _).grown hgrow4 HV.out).cell 1).trans rfl
      have HS4 := Lib.hid (sent HN.out HO.out HB.out hgrow4 hown4 hat4)
      obtain ⟨A', c', rfl, _, _, _, _, _⟩ := Sl.of_own hown4
      clear hown4 hgrow4 hat4
      try (go_wp2_with fail)
      refine hK.out _ _ trivial (fun hHeld => ?_)
      clear hK K
      try simp only [List.getElem_toArray, List.getElem_cons_zero, List.getElem_cons_succ, Act.put, List.setIfInBounds_toArray, List.set_cons_zero, List.set_cons_succ]
      refine wpAnyH_take (i := 11) (v := ?_) rfl (by kernel_rfl) (by kernel_rfl) (by kernel_rfl) (fun _ _ _ h => h) (Or.inl ⟨by rfl, ?_⟩) trivial ?_
      rotate_left
      · intro w hSw; first | (go_simp; done) | (go_simp; with_reducible rfl)
      try simp only [List.getElem_toArray, List.getElem_cons_zero, List.getElem_cons_succ, Act.put, List.setIfInBounds_toArray, List.set_cons_zero, List.set_cons_succ]
      refine wpAnyH_take (i := 12) (v := ?_) rfl (by kernel_rfl) (by kernel_rfl) (by kernel_rfl) (fun _ _ _ h => h) (Or.inl ⟨by rfl, ?_⟩) trivial ?_
      rotate_left
      · intro w hSw; first | (go_simp; done) | (go_simp; with_reducible rfl)
      try simp only [List.getElem_toArray, List.getElem_cons_zero, List.getElem_cons_succ, Act.put, List.setIfInBounds_toArray, List.set_cons_zero, List.set_cons_succ]
      refine wpAnyH_ready (rs := [13]) (by kernel_rfl) (by simp) ?_
      refine AllReadyH.cons rfl (fun K hK => ?_) AllReadyH.nil
      try simp only [List.getElem_toArray, List.getElem_cons_zero, List.getElem_cons_succ]
      go_simp
      refine hK.out _ _ trivial (fun hHeld => ?_)
      clear hK K
      try simp only [List.getElem_toArray, List.getElem_cons_zero, List.getElem_cons_succ, Act.put, List.setIfInBounds_toArray, List.set_cons_zero, List.set_cons_succ]
      refine wpAnyH_done (by kernel_rfl) ?_ _
      (go_wp2_with fail; go_ret; exact ⟨rfl, HS4.out⟩)

theorem new_net (n : Int) (w : World) : Calls Try.prog 23 #[.int .i64 n] w fun e w' => e = .returned (.pointer (some ⟨w.heap.size, 0, none⟩)) ∧ Nt w' w.heap.size (.slice none 0 0) (max n 0) [] ∧ Below w.heap.size w w' := by
  by_cases hn : n < 0
  · have e : max n 0 = 0 := by omega
    rw [e]
    go_enter Try.func23, Try.ntmps23
    go_wp2
    go_ret
    exact ⟨rfl, ⟨Blk.new _ _ _, World.ownsRow_nil _ _ _ _, by simp⟩, (Below.refl _ _).alloc (Nat.le_refl _) _⟩
  · have e : max n 0 = n := by omega
    have hn' : decide (n < 0) = false := decide_eq_false hn
    rw [e]
    go_enter Try.func23, Try.ntmps23
    go_wp2
    go_ret
    exact ⟨rfl, ⟨Blk.new _ _ _, World.ownsRow_nil _ _ _ _, by simp⟩, (Below.refl _ _).alloc (Nat.le_refl _) _⟩

/-- What Drop leaves: the net without what stood at k. -/
def Dropped (w : World) (g : Nat) (room : Int) (l' : List Ms) (w' : World) : Prop :=
  ∃ v', Nt w' g v' room l' ∧ Kp (fun k => k = g) w w' ∧ ∀ b, v'.ownBlock = some b → w.heap.size ≤ b

variable {w g v room l} in
theorem dropped {w2 : World} {u : Value} {l' : List Ms} {base n : Nat} (h : Nt w g v room l) (hown : w2.ownsRow base 67 2 u n (l'.flatMap Ms.cells)) (hn : n = l'.length) (hbase : w.heap.size ≤ base) (hb : Below w.heap.size w w2) (hl : ∀ x ∈ l', x ∈ l) :
    Dropped w g room l' (w2.setCell ⟨g, 1, none⟩ u) := by
  subst hn
  have hk2 : Kp (fun k => k = g) w w2 := (Kp.refl _ w).below hb
  have hk5 : Kp (fun k => k = g) w (w2.setCell ⟨g, 1, none⟩ u) := hk2.set (.inl rfl) _
  have hB2 : Blk w2 g 70 #[.int .i64 room, v] := h.blk.below hb
  refine ⟨u, ⟨?_, own_base (own_set hown (p := ⟨g, 1, none⟩) (own_ne hown hB2 (by decide)) u) (Nat.zero_le _), fun x hx => ?_⟩, hk5, fun b hb' => Nat.le_trans hbase (hown.lt b hb').1⟩
  · have := hB2.set_ 1 u
    simpa using this
  · refine own_kp (h.msg x (hl x hx)) hk5 (fun b hb' e => ?_)
    subst e
    exact own_ne (h.msg x (hl x hx)) h.blk (by decide) hb'

theorem drop_no (h : Nt w g v room l) (i : Int) (hi : i < 0 ∨ (l.length : Int) ≤ i) :
    Calls Try.prog 16 #[.pointer (some ⟨g, 0, none⟩), .int .i64 i] w fun e w' => e = .returned (.bool false) ∧ w' = w := by
  have HT := Lib.hid (there_no w g v room l h i hi)
  clear h hi
  go_enter Try.func16, Try.ntmps16
  go_wp2_with fail
  refine HT.out.mono ?_
  rintro e w1 ⟨rfl, rfl⟩
  clear HT
  go_wp2
  go_ret
  exact ⟨rfl, rfl⟩

set_option linter.unusedSimpArgs false in
set_option maxRecDepth 100000 in
theorem drop_yes (h : Nt w g v room l) (k : Nat) (hk : k < l.length) (hm : l.length < 7000000000000) :
    Calls Try.prog 16 #[.pointer (some ⟨g, 0, none⟩), .int .i64 k] w fun e w' => e = .returned (.bool true) ∧ Dropped w g room (l.take k ++ l.drop (k + 1)) w' := by
  have HT := Lib.hid (there_yes w g v room l h k hk)
  have HN := Lib.hid h
  obtain ⟨A, c, rfl, hlc, hcm, _, hsl, _⟩ := h.slice
  have c1 : w.cell? ⟨g, 1, none⟩ = some (.slice A l.length c) := (h.blk.cell 1).trans rfl
  obtain ⟨b, o, rfl, _⟩ := hsl.2 (by omega)
  have HS := Lib.hid hsl
  have hk1 : (k : Int) < (l.length : Int) := by omega
  have hlc1 : (l.length : Int) ≤ (c : Int) := by omega
  unfold maxLen at hcm
  have hcm1 : (c : Int) ≤ 9223372036854775807 := by omega
  have hk2 : (k : Int) + 1 ≤ (l.length : Int) := by omega
  have hk3 : k ≤ c := by omega
  have hk4 : (0 : Int) ≤ (k : Int) + 1 := by omega
  have hwk : IntKind.i64.wrap ((k : Int) + 1) = (k : Int) + 1 := by rw [IntKind.wrap_i64]; omega
  have htn : ((k : Int) + 1).toNat = k + 1 := by omega
  have H1 : Hid (∀ u ∈ (l.take k).flatMap Ms.cells, u.oneCell' = true) := Ms.cells_one (fun x hx => h.msg x (List.mem_of_mem_take hx))
  have H2 : Hid (∀ u ∈ (l.drop (k + 1)).flatMap Ms.cells, u.oneCell' = true) := Ms.cells_one (fun x hx => h.msg x (List.mem_of_mem_drop hx))
  have hst : Sl w 2 (some ⟨b, o, none⟩) k ((l.take k).flatMap Ms.cells) := by
    rw [← flat_take]
    exact hsl.take (by omega)
  have hsd : Sl w 2 (if c = k + 1 then some ⟨b, o, none⟩ else some ⟨b, o + (k + 1) * 2, none⟩) (l.length - (k + 1)) ((l.drop (k + 1)).flatMap Ms.cells) := by
    have := hsl.drop (k := k + 1) (cap := c) (by omega) (by omega)
    rw [flat_drop] at this
    simpa [Go.WideShapes.add_plain] using this
  have HST := Lib.hid hst
  have HSD := Lib.hid hsd
  clear h hsl hst hsd HS
  go_enter Try.func16, Try.ntmps16
  go_wp2_with fail
  refine HT.out.mono ?_
  rintro e w1 ⟨rfl, rfl⟩
  clear HT
  go_wp2_with fail

  refine wp_region_held_drew (S := fun _ => True) (by kernel_rfl) trivial (fun hHeld => ?_)
  refine wpAnyH_take (i := 0) (v := ?_) rfl (by kernel_rfl) (by kernel_rfl) (by kernel_rfl) (fun _ _ _ h => h) (Or.inl ⟨by rfl, ?_⟩) trivial ?_
  rotate_left
  · intro w hSw; first | (go_simp; done) | (go_simp; with_reducible rfl)
  try simp only [List.getElem_toArray, List.getElem_cons_zero, List.getElem_cons_succ, Act.put, List.setIfInBounds_toArray, List.set_cons_zero, List.set_cons_succ]
  refine wpAnyH_take (i := 1) (v := ?_) rfl (by kernel_rfl) (by kernel_rfl) (by kernel_rfl) (fun _ _ _ h => h) (Or.inl ⟨by rfl, ?_⟩) trivial ?_
  rotate_left
  · intro w hSw; first | (go_simp; done) | (go_simp; with_reducible rfl)
  try simp only [List.getElem_toArray, List.getElem_cons_zero, List.getElem_cons_succ, Act.put, List.setIfInBounds_toArray, List.set_cons_zero, List.set_cons_succ]
  refine wpAnyH_take (i := 2) (v := ?_) rfl (by kernel_rfl) (by kernel_rfl) (by kernel_rfl) (fun _ _ _ h => h) (Or.inl ⟨by rfl, ?_⟩) trivial ?_
  rotate_left
  · intro w hSw; first | (go_simp; done) | (go_simp; with_reducible rfl)
  try simp only [List.getElem_toArray, List.getElem_cons_zero, List.getElem_cons_succ, Act.put, List.setIfInBounds_toArray, List.set_cons_zero, List.set_cons_succ]
  refine wpAnyH_take (i := 3) (v := ?_) rfl (by kernel_rfl) (by kernel_rfl) (by kernel_rfl) (fun _ _ _ h => h) (Or.inl ⟨by rfl, ?_⟩) trivial ?_
  rotate_left
  · intro w hSw; first | (go_simp; done) | (go_simp; with_reducible rfl)
  try simp only [List.getElem_toArray, List.getElem_cons_zero, List.getElem_cons_succ, Act.put, List.setIfInBounds_toArray, List.set_cons_zero, List.set_cons_succ]
  refine wpAnyH_take (i := 5) (v := ?_) rfl (by kernel_rfl) (by kernel_rfl) (by kernel_rfl) (fun _ _ _ h => h) (Or.inl ⟨by rfl, ?_⟩) trivial ?_
  rotate_left
  · intro w hSw; first | (go_simp; done) | (go_simp; with_reducible rfl)
  try simp only [List.getElem_toArray, List.getElem_cons_zero, List.getElem_cons_succ, Act.put, List.setIfInBounds_toArray, List.set_cons_zero, List.set_cons_succ]
  refine wpAnyH_take (i := 7) (v := ?_) rfl (by kernel_rfl) (by kernel_rfl) (by kernel_rfl) (fun _ _ _ h => h) (Or.inl ⟨by rfl, ?_⟩) trivial ?_
  rotate_left
  · intro w hSw; first | (go_simp; done) | (go_simp; with_reducible rfl)
  try simp only [List.getElem_toArray, List.getElem_cons_zero, List.getElem_cons_succ, Act.put, List.setIfInBounds_toArray, List.set_cons_zero, List.set_cons_succ]
  refine wpAnyH_take (i := 8) (v := ?_) rfl (by kernel_rfl) (by kernel_rfl) (by kernel_rfl) (fun _ _ _ h => h) (Or.inl ⟨by rfl, ?_⟩) trivial ?_
  rotate_left
  · intro w hSw; first | (go_simp; done) | (go_simp; with_reducible rfl)
  try simp only [List.getElem_toArray, List.getElem_cons_zero, List.getElem_cons_succ, Act.put, List.setIfInBounds_toArray, List.set_cons_zero, List.set_cons_succ]
  refine wpAnyH_take (i := 9) (v := ?_) rfl (by kernel_rfl) (by kernel_rfl) (by kernel_rfl) (fun _ _ _ h => h) (Or.inl ⟨by rfl, ?_⟩) trivial ?_
  rotate_left
  · intro w hSw; first | (go_simp; done) | (go_simp; with_reducible rfl)
  try simp only [List.getElem_toArray, List.getElem_cons_zero, List.getElem_cons_succ, Act.put, List.setIfInBounds_toArray, List.set_cons_zero, List.set_cons_succ]
  refine wpAnyH_take (i := 11) (v := ?_) rfl (by kernel_rfl) (by kernel_rfl) (by kernel_rfl) (fun _ _ _ h => h) (Or.inl ⟨by rfl, ?_⟩) trivial ?_
  rotate_left
  · intro w hSw; first | (go_simp; done) | (go_simp; with_reducible rfl)
  try simp only [List.getElem_toArray, List.getElem_cons_zero, List.getElem_cons_succ, Act.put, List.setIfInBounds_toArray, List.set_cons_zero, List.set_cons_succ]
  refine wpAnyH_take (i := 12) (v := ?_) rfl (by kernel_rfl) (by kernel_rfl) (by kernel_rfl) (fun _ _ _ h => h) (Or.inl ⟨by rfl, ?_⟩) trivial ?_
  rotate_left
  · intro w hSw; first | (go_simp; done) | (go_simp; with_reducible rfl)
  try simp only [List.getElem_toArray, List.getElem_cons_zero, List.getElem_cons_succ, Act.put, List.setIfInBounds_toArray, List.set_cons_zero, List.set_cons_succ]
  refine wpAnyH_ready (rs := [4, 10]) (by kernel_rfl) (by simp) ?_
  refine AllReadyH.cons rfl (fun K hK => ?_) (AllReadyH.cons rfl (fun K hK => ?_) AllReadyH.nil)
  · skip
    try simp only [List.getElem_toArray, List.getElem_cons_zero, List.getElem_cons_succ]
    go_simp
    refine hK.out _ _ trivial (fun hHeld => ?_)
    clear hK K
    try simp only [List.getElem_toArray, List.getElem_cons_zero, List.getElem_cons_succ, Act.put, List.setIfInBounds_toArray, List.set_cons_zero, List.set_cons_succ]
    refine wpAnyH_take (i := 6) (v := ?_) rfl (by kernel_rfl) (by kernel_rfl) (by kernel_rfl) (fun _ _ _ h => h) (Or.inl ⟨by rfl, ?_⟩) trivial ?_
    rotate_left
    · intro w hSw; first | (go_simp; done) | (go_simp; with_reducible rfl)
    try simp only [List.getElem_toArray, List.getElem_cons_zero, List.getElem_cons_succ, Act.put, List.setIfInBounds_toArray, List.set_cons_zero, List.set_cons_succ]
    refine wpAnyH_ready (rs := [10]) (by kernel_rfl) (by simp) ?_
    refine AllReadyH.cons rfl (fun K hK => ?_) AllReadyH.nil
    try simp only [List.getElem_toArray, List.getElem_cons_zero, List.getElem_cons_succ]
    go_simp
    refine hK.out _ _ trivial (fun hHeld => ?_)
    clear hK K
    try simp only [List.getElem_toArray, List.getElem_cons_zero, List.getElem_cons_succ, Act.put, List.setIfInBounds_toArray, List.set_cons_zero, List.set_cons_succ]
    refine wpAnyH_take (i := 13) (v := ?_) rfl (by kernel_rfl) (by kernel_rfl) (by kernel_rfl) (fun _ _ _ h => h) (Or.inl ⟨by rfl, ?_⟩) trivial ?_
    rotate_left
    · intro w hSw; first | (go_simp; done) | (go_simp; with_reducible rfl)
    try simp only [List.getElem_toArray, List.getElem_cons_zero, List.getElem_cons_succ, Act.put, List.setIfInBounds_toArray, List.set_cons_zero, List.set_cons_succ]
    refine wpAnyH_ready (rs := [14]) (by kernel_rfl) (by simp) ?_
    refine AllReadyH.cons rfl (fun K hK => ?_) AllReadyH.nil
    try simp only [List.getElem_toArray, List.getElem_cons_zero, List.getElem_cons_succ]
    go_simp
    refine hK.out _ _ trivial (fun hHeld => ?_)
    clear hK K
    try simp only [List.getElem_toArray, List.getElem_cons_zero, List.getElem_cons_succ, Act.put, List.setIfInBounds_toArray, List.set_cons_zero, List.set_cons_succ]
    refine wpAnyH_ready (rs := [15]) (by kernel_rfl) (by simp) ?_
    refine AllReadyH.cons rfl (fun K hK => ?_) AllReadyH.nil
    try simp only [List.getElem_toArray, List.getElem_cons_zero, List.getElem_cons_succ]
    go_simp
    refine (SlOne.concat w1.heap.size (some ⟨b, o, none⟩) (if c = k + 1 then some ⟨b, o, none⟩ else some ⟨b, o + (k + 1) * 2, none⟩) k (l.length - (k + 1)) c (c - (k + 1)) ((l.take k).flatMap Ms.cells) ((l.drop (k + 1)).flatMap Ms.cells) _ ((World.cell?_alloc_at _ _ _ _ (by simp)).trans rfl) ((World.cell?_alloc_at _ _ _ _ (by simp)).trans rfl) (HST.out.drew.alloc _) (HSD.out.drew.alloc _) H1.out H2.out (by omega)).mono ?_
    rintro e w2 ⟨u, rfl, hown, hbel⟩
    rw [← List.flatMap_append] at hown
    have hb2 : Below w1.heap.size w1 w2 := (((Below.refl _ _).drew).alloc (Nat.le_refl _) _).trans (hbel.mono (by simp))
    have f1 : w2.frozen? ⟨g, 1, none⟩ = false := (HN.out.blk.below hb2).frozen 1
    have c2 : w2.cell? ⟨g, 1, none⟩ = some (.slice (some ⟨b, o, none⟩) l.length c) := ((HN.out.blk.below hb2).cell 1).trans rfl
    have HD := Lib.hid (dropped HN.out hown (by simp only [List.length_append, List.length_take, List.length_drop]; omega) (by simp) hb2 (fun x hx => by rcases List.mem_append.1 hx with hx | hx; exact List.mem_of_mem_take hx; exact List.mem_of_mem_drop hx))
    obtain ⟨U, cu, rfl, _, _, _, _, _⟩ := Sl.of_own hown
    clear hown hbel hb2 HSD HST
    generalize (if c = k + 1 then some (⟨b, o, none⟩ : Addr) else some ⟨b, o + (k + 1) * 2, none⟩) = B
    try (go_wp2_with fail)
    refine hK.out _ _ trivial (fun hHeld => ?_)
    clear hK K
    try simp only [List.getElem_toArray, List.getElem_cons_zero, List.getElem_cons_succ, Act.put, List.setIfInBounds_toArray, List.set_cons_zero, List.set_cons_succ]
    refine wpAnyH_take (i := 16) (v := ?_) rfl (by kernel_rfl) (by kernel_rfl) (by kernel_rfl) (fun _ _ _ h => h) (Or.inl ⟨by rfl, ?_⟩) trivial ?_
    rotate_left
    · intro w hSw; first | (go_simp; done) | (go_simp; with_reducible rfl)
    try simp only [List.getElem_toArray, List.getElem_cons_zero, List.getElem_cons_succ, Act.put, List.setIfInBounds_toArray, List.set_cons_zero, List.set_cons_succ]
    refine wpAnyH_take (i := 17) (v := ?_) rfl (by kernel_rfl) (by kernel_rfl) (by kernel_rfl) (fun _ _ _ h => h) (Or.inl ⟨by rfl, ?_⟩) trivial ?_
    rotate_left
    · intro w hSw; first | (go_simp; done) | (go_simp; with_reducible rfl)
    try simp only [List.getElem_toArray, List.getElem_cons_zero, List.getElem_cons_succ, Act.put, List.setIfInBounds_toArray, List.set_cons_zero, List.set_cons_succ]
    refine wpAnyH_ready (rs := [18]) (by kernel_rfl) (by simp) ?_
    refine AllReadyH.cons rfl (fun K hK => ?_) AllReadyH.nil
    try simp only [List.getElem_toArray, List.getElem_cons_zero, List.getElem_cons_succ]
    go_simp
    refine hK.out _ _ trivial (fun hHeld => ?_)
    clear hK K
    try simp only [List.getElem_toArray, List.getElem_cons_zero, List.getElem_cons_succ, Act.put, List.setIfInBounds_toArray, List.set_cons_zero, List.set_cons_succ]
    refine wpAnyH_done (by kernel_rfl) ?_ _
    (go_wp2_with fail; go_ret; exact ⟨rfl, HD.out⟩)
  · skip
    try simp only [List.getElem_toArray, List.getElem_cons_zero, List.getElem_cons_succ]
    go_simp
    refine hK.out _ _ trivial (fun hHeld => ?_)
    clear hK K
    try simp only [List.getElem_toArray, List.getElem_cons_zero, List.getElem_cons_succ, Act.put, List.setIfInBounds_toArray, List.set_cons_zero, List.set_cons_succ]
    refine wpAnyH_take (i := 13) (v := ?_) rfl (by kernel_rfl) (by kernel_rfl) (by kernel_rfl) (fun _ _ _ h => h) (Or.inl ⟨by rfl, ?_⟩) trivial ?_
    rotate_left
    · intro w hSw; first | (go_simp; done) | (go_simp; with_reducible rfl)
    try simp only [List.getElem_toArray, List.getElem_cons_zero, List.getElem_cons_succ, Act.put, List.setIfInBounds_toArray, List.set_cons_zero, List.set_cons_succ]
    refine wpAnyH_ready (rs := [4]) (by kernel_rfl) (by simp) ?_
    refine AllReadyH.cons rfl (fun K hK => ?_) AllReadyH.nil
    try simp only [List.getElem_toArray, List.getElem_cons_zero, List.getElem_cons_succ]
    go_simp
    refine hK.out _ _ trivial (fun hHeld => ?_)
    clear hK K
    try simp only [List.getElem_toArray, List.getElem_cons_zero, List.getElem_cons_succ, Act.put, List.setIfInBounds_toArray, List.set_cons_zero, List.set_cons_succ]
    refine wpAnyH_take (i := 6) (v := ?_) rfl (by kernel_rfl) (by kernel_rfl) (by kernel_rfl) (fun _ _ _ h => h) (Or.inl ⟨by rfl, ?_⟩) trivial ?_
    rotate_left
    · intro w hSw; first | (go_simp; done) | (go_simp; with_reducible rfl)
    try simp only [List.getElem_toArray, List.getElem_cons_zero, List.getElem_cons_succ, Act.put, List.setIfInBounds_toArray, List.set_cons_zero, List.set_cons_succ]
    refine wpAnyH_ready (rs := [14]) (by kernel_rfl) (by simp) ?_
    refine AllReadyH.cons rfl (fun K hK => ?_) AllReadyH.nil
    try simp only [List.getElem_toArray, List.getElem_cons_zero, List.getElem_cons_succ]
    go_simp
    refine hK.out _ _ trivial (fun hHeld => ?_)
    clear hK K
    try simp only [List.getElem_toArray, List.getElem_cons_zero, List.getElem_cons_succ, Act.put, List.setIfInBounds_toArray, List.set_cons_zero, List.set_cons_succ]
    refine wpAnyH_ready (rs := [15]) (by kernel_rfl) (by simp) ?_
    refine AllReadyH.cons rfl (fun K hK => ?_) AllReadyH.nil
    try simp only [List.getElem_toArray, List.getElem_cons_zero, List.getElem_cons_succ]
    go_simp
    refine (SlOne.concat w1.heap.size (some ⟨b, o, none⟩) (if c = k + 1 then some ⟨b, o, none⟩ else some ⟨b, o + (k + 1) * 2, none⟩) k (l.length - (k + 1)) c (c - (k + 1)) ((l.take k).flatMap Ms.cells) ((l.drop (k + 1)).flatMap Ms.cells) _ ((World.cell?_alloc_at _ _ _ _ (by simp)).trans rfl) ((World.cell?_alloc_at _ _ _ _ (by simp)).trans rfl) (HST.out.drew.alloc _) (HSD.out.drew.alloc _) H1.out H2.out (by omega)).mono ?_
    rintro e w2 ⟨u, rfl, hown, hbel⟩
    rw [← List.flatMap_append] at hown
    have hb2 : Below w1.heap.size w1 w2 := (((Below.refl _ _).drew).alloc (Nat.le_refl _) _).trans (hbel.mono (by simp))
    have f1 : w2.frozen? ⟨g, 1, none⟩ = false := (HN.out.blk.below hb2).frozen 1
    have c2 : w2.cell? ⟨g, 1, none⟩ = some (.slice (some ⟨b, o, none⟩) l.length c) := ((HN.out.blk.below hb2).cell 1).trans rfl
    have HD := Lib.hid (dropped HN.out hown (by simp only [List.length_append, List.length_take, List.length_drop]; omega) (by simp) hb2 (fun x hx => by rcases List.mem_append.1 hx with hx | hx; exact List.mem_of_mem_take hx; exact List.mem_of_mem_drop hx))
    obtain ⟨U, cu, rfl, _, _, _, _, _⟩ := Sl.of_own hown
    clear hown hbel hb2 HSD HST
    generalize (if c = k + 1 then some (⟨b, o, none⟩ : Addr) else some ⟨b, o + (k + 1) * 2, none⟩) = B
    try (go_wp2_with fail)
    refine hK.out _ _ trivial (fun hHeld => ?_)
    clear hK K
    try simp only [List.getElem_toArray, List.getElem_cons_zero, List.getElem_cons_succ, Act.put, List.setIfInBounds_toArray, List.set_cons_zero, List.set_cons_succ]
    refine wpAnyH_take (i := 16) (v := ?_) rfl (by kernel_rfl) (by kernel_rfl) (by kernel_rfl) (fun _ _ _ h => h) (Or.inl ⟨by rfl, ?_⟩) trivial ?_
    rotate_left
    · intro w hSw; first | (go_simp; done) | (go_simp; with_reducible rfl)
    try simp only [List.getElem_toArray, List.getElem_cons_zero, List.getElem_cons_succ, Act.put, List.setIfInBounds_toArray, List.set_cons_zero, List.set_cons_succ]
    refine wpAnyH_take (i := 17) (v := ?_) rfl (by kernel_rfl) (by kernel_rfl) (by kernel_rfl) (fun _ _ _ h => h) (Or.inl ⟨by rfl, ?_⟩) trivial ?_
    rotate_left
    · intro w hSw; first | (go_simp; done) | (go_simp; with_reducible rfl)
    try simp only [List.getElem_toArray, List.getElem_cons_zero, List.getElem_cons_succ, Act.put, List.setIfInBounds_toArray, List.set_cons_zero, List.set_cons_succ]
    refine wpAnyH_ready (rs := [18]) (by kernel_rfl) (by simp) ?_
    refine AllReadyH.cons rfl (fun K hK => ?_) AllReadyH.nil
    try simp only [List.getElem_toArray, List.getElem_cons_zero, List.getElem_cons_succ]
    go_simp
    refine hK.out _ _ trivial (fun hHeld => ?_)
    clear hK K
    try simp only [List.getElem_toArray, List.getElem_cons_zero, List.getElem_cons_succ, Act.put, List.setIfInBounds_toArray, List.set_cons_zero, List.set_cons_succ]
    refine wpAnyH_done (by kernel_rfl) ?_ _
    (go_wp2_with fail; go_ret; exact ⟨rfl, HD.out⟩)

end

end Go.Proofs.Ytogiedephnappaa.Net
