/- The walk of dockyardlaw03.NetCounts. -/
import Derived.Test.YtogiedephnappaaLists
import Derived.Test.YtogiedephnappaaOps
namespace Go.Proofs.Ytogiedephnappaa.Net
open Go.RowKit Go.Proofs.Ytogiedephnappaa.Mem

/-- Its messages are no longer than memory bears. -/
def Short (l : List Ms) : Prop := ∀ x ∈ l, x.raw.length ≤ 140737488351232

theorem Short.one {x : Ms} (h : x.raw.length ≤ 140737488351232) : Short [x] := fun y hy => by obtain rfl := List.mem_singleton.1 hy; exact h
theorem Short.app {a b : List Ms} (ha : Short a) (hb : Short b) : Short (a ++ b) := fun x hx => (List.mem_append.1 hx).elim (ha x) (hb x)
theorem Short.out {l : List Ms} (h : Short l) (k : Nat) : Short (l.take k ++ l.drop (k + 1)) := fun x hx => h x ((List.mem_append.1 hx).elim List.mem_of_mem_take List.mem_of_mem_drop)

theorem cnt_raws : ∀ {l l' : List Ms}, l.map Ms.raw = l'.map Ms.raw → ∀ s, cnt l s = cnt l' s
  | [], [], _, _ => rfl
  | [], _ :: _, h, _ => by cases h
  | _ :: _, [], h, _ => by cases h
  | x :: l, y :: l', h, s => by
    simp only [List.map_cons, List.cons.injEq] at h
    have := cnt_raws h.2 s
    simp only [cnt, List.countP_cons, h.1] at this ⊢
    rw [this]

/-- Ahead of round k. -/
structure Rd (b : Nat) (W w : World) (g : Nat) (room : Int) (vi vo : Value) (k : Nat) : Prop where
  ex : ∃ v l ins outs, St b W w g v room l vi ins vo outs ∧ Books ins outs l ∧ l.length ≤ k ∧ ins.length ≤ k ∧ outs.length ≤ k ∧ Short l

set_option linter.unusedSimpArgs false in
set_option maxRecDepth 100000 in
set_option maxHeartbeats 1600000 in
theorem counts_walk (room : Int) (A : Option Addr) (cap : Nat) (ops : List Cl) (w : World) (hS : Script w A ops) :
    Calls Try.prog 5 #[.int .i64 room, .slice A ops.length cap] w fun e w' => e = .returned (.bool true) ∧ Below w.heap.size w w' := by
  have HS := Lib.hid hS
  have hN : (ops.length : Int) ≤ 2932031008000 := by have := hS.len; omega
  obtain ⟨i0, hi, hz0, hz1, hz2⟩ := info_parts info35
  clear hS
  go_enter Try.func5, Try.ntmps5
  go_wp2_with fail
  refine (begun room w).mono ?_
  rintro e w1 ⟨g, rfl, hO, hB⟩
  have HR : Hid (Rd w.heap.size w w1 g (max room 0) (.slice none 0 0) (.slice none 0 0) 0) :=
    ⟨_, _, [], [], ⟨hO, Lst.nil _ _, Lst.nil _ _, (fun k e => by cases e), hB, hB.size⟩, Books.nil, by simp, by simp, by simp, (fun x hx => by cases hx)⟩
  clear hO hB
  go_wp2_with fail
  go_loopw [7, 8, 33] (fun vi vo v33 wr => ∃ k : Nat, v33 = .int .i64 k ∧ k ≤ ops.length ∧ Hid (Rd w.heap.size w wr g (max room 0) vi vo k)) (fun _ _ v33 _ => ops.length - (intOf v33).toNat)
  case atStart => exact ⟨0, rfl, Nat.zero_le _, HR⟩
  case round =>
    obtain ⟨k, rfl, hk, HR⟩ := hrel
    by_cases hlt : k < ops.length
    · obtain ⟨v, l, ins, outs, hst, hbk, hll, hli, hlo, hsh⟩ := HR.out.ex
      clear HR
      have ST := Lib.hid hst
      have BK := Lib.hid hbk
      have SH := Lib.hid hsh
      obtain ⟨⟨kind, dst, at_, cv, raw⟩, hc⟩ : ∃ c, ops[k]? = some c := ⟨_, List.getElem?_eq_getElem hlt⟩
      have hf := HS.out.fine _ (List.mem_of_getElem? hc)
      have hsl := HS.out.sl.below hst.below
      obtain ⟨b, o, rfl, x0⟩ := hsl.at_ (j := k * 4 + 0) (u := .int .i64 kind) (by rw [cl_at ops k 0 _ hc (by omega)]; rfl)
      obtain ⟨b', o', e', x1⟩ := hsl.at_ (j := k * 4 + 1) (u := .int .i64 dst) (by rw [cl_at ops k 1 _ hc (by omega)]; rfl)
      injection e' with e'
      injection e' with e1 e2
      subst e1 e2
      obtain ⟨b', o', e', x2⟩ := hsl.at_ (j := k * 4 + 2) (u := .int .i64 at_) (by rw [cl_at ops k 2 _ hc (by omega)]; rfl)
      injection e' with e'
      injection e' with e1 e2
      subst e1 e2
      obtain ⟨b', o', e', x3⟩ := hsl.at_ (j := k * 4 + 3) (u := cv) (by rw [cl_at ops k 3 _ hc (by omega)]; rfl)
      injection e' with e'
      injection e' with e1 e2
      subst e1 e2
      rw [Nat.add_zero] at x0
      rw [← Nat.add_assoc] at x1 x2 x3
      have hcs : Ms.Safe w.heap.size wr ⟨dst, cv, raw⟩ := .inr ⟨hf.1.below hst.below, hf.2.2.2.2.2⟩
      have hrw : raw.length ≤ 140737488351232 := hf.2.1
      obtain ⟨C, cd, hv, hrs, hnil⟩ := hf.1
      change cv = .slice C raw.length cd at hv
      subst hv
      have hwb : w.heap.size ≤ wr.heap.size := hst.size
      have HCS := Lib.hid hcs
      have HC : Hid (Sl wr 1 C raw.length (bcs raw)) := hrs.below hst.below
      have HCN : Hid (C = none → raw.length = 0 ∧ cd = 0) := hnil
      clear hst hbk hsh hc hf hsl hrs hnil hcs
      go_wp2_with fail
      have ST1 := Lib.hid (ST.out.keep ((Below.refl _ _).alloc (Nat.le_refl _) (.cells #[.int .i64 kind, .int .i64 dst, .int .i64 at_, .slice C raw.length cd] 44)))
      have HC1 := Lib.hid (HC.out.alloc (.cells #[.int .i64 kind, .int .i64 dst, .int .i64 at_, .slice C raw.length cd] 44))
      have HCS1 := Lib.hid (HCS.out.below ((Below.refl _ _).alloc (Nat.le_refl _) (.cells #[.int .i64 kind, .int .i64 dst, .int .i64 at_, .slice C raw.length cd] 44)))
      have BK1 := Lib.hid (Blk.new wr 44 #[.int .i64 kind, .int .i64 dst, .int .i64 at_, .slice C raw.length cd])
      obtain ⟨g4, hg4⟩ : ∃ g4, g4 = wr.heap.size := ⟨_, rfl⟩
      obtain ⟨W1, hW1⟩ : ∃ W1, W1 = wr.alloc (.cells #[.int .i64 kind, .int .i64 dst, .int .i64 at_, .slice C raw.length cd] 44) := ⟨_, rfl⟩
      rw [← hg4] at BK1 ⊢
      rw [← hW1] at ST1 HC1 HCS1 BK1 ⊢
      clear hg4 hW1 ST HC HCS x0 x1 x2 x3 hwb
      have cells := fun (W : World) (h : Blk W g4 44 #[.int .i64 kind, .int .i64 dst, .int .i64 at_, .slice C raw.length cd]) => And.intro ((h.cell 0).trans rfl) (And.intro ((h.cell 1).trans rfl) (And.intro ((h.cell 2).trans rfl) ((h.cell 3).trans rfl)))
      have CELLS := Lib.hid cells
      clear cells
      by_cases hr : 0 ≤ at_ ∧ at_ < (l.length : Int)
      · obtain ⟨n, rfl⟩ := Int.eq_ofNat_of_zero_le hr.1
        obtain ⟨x, hx⟩ : ∃ x, l[n]? = some x := ⟨_, List.getElem?_eq_getElem (by omega)⟩
        have HX := Lib.hid hx
        have hxs : x.raw.length ≤ 140737488351232 := SH.out x (List.mem_of_getElem? hx)
        clear hx hr
        refine (at_yes W1 g v _ l ST1.out.net.net n x HX.out (by omega)).mono ?_
        rintro e W2 ⟨u, rfl, hown, hbel⟩
        obtain ⟨U, cu, rfl, _, _, _, _, _⟩ := Sl.of_own hown
        have Y2 : Hid (Ms.Lies W2 ⟨x.dst, .slice U x.raw.length cu, x.raw⟩) := own_base hown (Nat.zero_le _)
        have ST2 := Lib.hid (ST1.out.keep hbel)
        have HC2 := Lib.hid (HC1.out.below hbel)
        have HCS2 := Lib.hid (HCS1.out.below hbel)
        have BK2 := Lib.hid (BK1.out.below hbel)
        obtain ⟨c0, c1, c2, c3⟩ := CELLS.out W2 BK2.out
        clear hown hbel ST1 HC1 HCS1 BK1
        by_cases k0 : kind = 0
        · subst k0
          go_wp2_with fail
          refine (send W2 g v _ l ST2.out.net.net (by omega) dst C cd raw HC2.out HCN.out (by omega)).mono ?_
          rintro e W3 (⟨_, rfl, hb⟩ | ⟨_, rfl, hs⟩)
          · have ST3 := Lib.hid (ST2.out.keep hb)
            clear hb ST2
            go_wp2_with fail
            go_roundw
            case rel => exact ⟨k + 1, by go_num, by omega, ⟨_, _, _, _, ST3.out, BK.out, by omega, by omega, by omega, SH.out⟩⟩
            case measure => simp [intOf]; omega
          · obtain ⟨v3, u3, hst3, hk3⟩ := ST2.out.sent hs
            have CS3 := Lib.hid (HCS2.out.net ST2.out.net hk3)
            have BK3 := Lib.hid (ST2.out.net.blk BK2.out hk3 (by decide) (by decide))
            have ST3 := Lib.hid hst3
            obtain ⟨c0, c1, c2, c3⟩ := CELLS.out W3 BK3.out
            clear hst3 hk3 hs ST2 HC2 HCS2 BK2
            have HO3 : Hid (∀ o : Obj, (W3.alloc o).ownsRow w.heap.size 35 1 _ ins.length (ins.map Ms.v)) := fun o => own_kp ST3.out.ins.own ((Kp.refl (fun _ => False) _).alloc _) (fun _ _ e => e)
            go_wp2_with (at_builtin; refine wpList_append_sl _ rfl (.tmp 56) (.tmp 59) 50 rfl w.heap.size 35 i0 _ 1 24 Try.underlying50 hi hz0 hz1 hz2 rfl (by decide) _ ins.length (ins.map Ms.v) rfl (HO3.out _) (some ⟨_, 0, none⟩) 1 1 [.slice C raw.length cd] rfl (one_sl _ _ _) (by intro z hz; obtain rfl := List.mem_singleton.1 hz; rfl) (by unfold maxLen; omega) (by omega) (by have := ST3.out.size; simp; omega) ?_; intro vn W4 hown4 hgrow4 hat4)
            have ST4 := Lib.hid (ST3.out.push CS3.out hown4 hgrow4 hat4)
            obtain ⟨An, cn, rfl, _, _, _, _, _⟩ := Sl.of_own hown4
            clear hown4 hgrow4 hat4 ST3 HO3
            go_wp2_with fail
            go_roundw
            case rel => exact ⟨k + 1, by go_num, by omega, ⟨_, _, _, _, ST4.out, BK.out.put _ _ rfl, by (try simp only [List.length_append, List.length_singleton]); omega, by (try simp only [List.length_append, List.length_singleton]); omega, by (try simp only [List.length_append, List.length_singleton]); omega, SH.out.app (Short.one hrw)⟩⟩
            case measure => simp [intOf]; omega
        by_cases k2 : kind = 2
        · subst k2
          go_wp2_with fail
          refine (take_yes W2 g v _ l ST2.out.net.net n x HX.out (by omega) (by omega)).mono ?_
          rintro e W3 ⟨u3, rfl, hown3, hd⟩
          obtain ⟨U3, cu3, rfl, _, _, _, _, _⟩ := Sl.of_own hown3
          obtain ⟨v3, hst3, hk3⟩ := ST2.out.dropped hd
          have ST3 := Lib.hid hst3
          have Y3 : Hid (Ms.Safe w.heap.size W3 ⟨x.dst, .slice U3 x.raw.length cu3, x.raw⟩) := .inl (own_base hown3 (Nat.zero_le _))
          clear hst3 hk3 hd hown3 ST2 HC2 HCS2 BK2 Y2
          have HO3 : Hid (∀ o : Obj, (W3.alloc o).ownsRow w.heap.size 35 1 _ outs.length (outs.map Ms.v)) := fun o => own_kp ST3.out.outs.own ((Kp.refl (fun _ => False) _).alloc _) (fun _ _ e => e)
          go_wp2_with (at_builtin; refine wpList_append_sl _ rfl (.tmp 72) (.tmp 74) 50 rfl w.heap.size 35 i0 _ 1 24 Try.underlying50 hi hz0 hz1 hz2 rfl (by decide) _ outs.length (outs.map Ms.v) rfl (HO3.out _) (some ⟨_, 0, none⟩) 1 1 [.slice U3 x.raw.length cu3] rfl (one_sl _ _ _) (by intro z hz; obtain rfl := List.mem_singleton.1 hz; rfl) (by unfold maxLen; omega) (by omega) (by have := ST3.out.size; simp; omega) ?_; intro vn W4 hown4 hgrow4 hat4)
          have ST4 := Lib.hid ((ST3.out.swap.push Y3.out hown4 hgrow4 hat4).swap)
          obtain ⟨An, cn, rfl, _, _, _, _, _⟩ := Sl.of_own hown4
          clear hown4 hgrow4 hat4 ST3 HO3
          go_wp2_with fail
          go_roundw
          case rel => exact ⟨k + 1, by go_num, by omega, ⟨_, _, _, _, ST4.out, BK.out.out HX.out _ rfl, by have := len_out HX.out; (try simp only [List.length_append, List.length_take, List.length_drop] at this ⊢); omega, by have := len_out HX.out; (try simp only [List.length_append, List.length_take, List.length_drop, List.length_singleton] at this ⊢); omega, by have := len_out HX.out; (try simp only [List.length_append, List.length_take, List.length_drop, List.length_singleton] at this ⊢); omega, SH.out.out n⟩⟩
          case measure => simp [intOf]; omega
        by_cases k3 : kind = 3
        · subst k3
          go_wp2_with fail
          refine (drop_yes W2 g v _ l ST2.out.net.net n (List.getElem?_eq_some_iff.1 HX.out).1 (by omega)).mono ?_
          rintro e W3 ⟨rfl, hd⟩
          obtain ⟨v3, hst3, hk3⟩ := ST2.out.dropped hd
          have ST3 := Lib.hid hst3
          have Y3 : Hid (Ms.Safe w.heap.size W3 ⟨x.dst, .slice U x.raw.length cu, x.raw⟩) := Ms.Safe.net (.inl Y2.out) ST2.out.net hk3
          clear hst3 hk3 hd ST2 HC2 HCS2 BK2 Y2
          have HO3 : Hid (∀ o : Obj, (W3.alloc o).ownsRow w.heap.size 35 1 _ outs.length (outs.map Ms.v)) := fun o => own_kp ST3.out.outs.own ((Kp.refl (fun _ => False) _).alloc _) (fun _ _ e => e)
          go_wp2_with (at_builtin; refine wpList_append_sl _ rfl (.tmp 85) (.tmp 87) 50 rfl w.heap.size 35 i0 _ 1 24 Try.underlying50 hi hz0 hz1 hz2 rfl (by decide) _ outs.length (outs.map Ms.v) rfl (HO3.out _) (some ⟨_, 0, none⟩) 1 1 [.slice U x.raw.length cu] rfl (one_sl _ _ _) (by intro z hz; obtain rfl := List.mem_singleton.1 hz; rfl) (by unfold maxLen; omega) (by omega) (by have := ST3.out.size; simp; omega) ?_; intro vn W4 hown4 hgrow4 hat4)
          have ST4 := Lib.hid ((ST3.out.swap.push Y3.out hown4 hgrow4 hat4).swap)
          obtain ⟨An, cn, rfl, _, _, _, _, _⟩ := Sl.of_own hown4
          clear hown4 hgrow4 hat4 ST3 HO3
          go_wp2_with fail
          go_roundw
          case rel => exact ⟨k + 1, by go_num, by omega, ⟨_, _, _, _, ST4.out, BK.out.out HX.out _ rfl, by have := len_out HX.out; (try simp only [List.length_append, List.length_take, List.length_drop] at this ⊢); omega, by have := len_out HX.out; (try simp only [List.length_append, List.length_take, List.length_drop, List.length_singleton] at this ⊢); omega, by have := len_out HX.out; (try simp only [List.length_append, List.length_take, List.length_drop, List.length_singleton] at this ⊢); omega, SH.out.out n⟩⟩
          case measure => simp [intOf]; omega
        by_cases k4 : kind = 4
        · subst k4
          go_wp2_with fail
          refine (double W2 g v _ l ST2.out.net.net n x HX.out (by omega) (by omega)).mono ?_
          rintro e W3 (⟨_, rfl, hb⟩ | ⟨_, rfl, hs⟩)
          · have ST3 := Lib.hid (ST2.out.keep hb)
            clear hb ST2
            go_wp2_with fail
            go_roundw
            case rel => exact ⟨k + 1, by go_num, by omega, ⟨_, _, _, _, ST3.out, BK.out, by omega, by omega, by omega, SH.out⟩⟩
            case measure => simp [intOf]; omega
          · obtain ⟨v3, u3, hst3, hk3⟩ := ST2.out.sent hs
            have ST3 := Lib.hid hst3
            have Y3 : Hid (Ms.Safe w.heap.size W3 ⟨x.dst, .slice U x.raw.length cu, x.raw⟩) := Ms.Safe.net (.inl Y2.out) ST2.out.net hk3
            clear hst3 hk3 hs ST2 HC2 HCS2 BK2 Y2
            have HO3 : Hid (∀ o : Obj, (W3.alloc o).ownsRow w.heap.size 35 1 _ ins.length (ins.map Ms.v)) := fun o => own_kp ST3.out.ins.own ((Kp.refl (fun _ => False) _).alloc _) (fun _ _ e => e)
            go_wp2_with (at_builtin; refine wpList_append_sl _ rfl (.tmp 96) (.tmp 98) 50 rfl w.heap.size 35 i0 _ 1 24 Try.underlying50 hi hz0 hz1 hz2 rfl (by decide) _ ins.length (ins.map Ms.v) rfl (HO3.out _) (some ⟨_, 0, none⟩) 1 1 [.slice U x.raw.length cu] rfl (one_sl _ _ _) (by intro z hz; obtain rfl := List.mem_singleton.1 hz; rfl) (by unfold maxLen; omega) (by omega) (by have := ST3.out.size; simp; omega) ?_; intro vn W4 hown4 hgrow4 hat4)
            have ST4 := Lib.hid (ST3.out.push Y3.out hown4 hgrow4 hat4)
            obtain ⟨An, cn, rfl, _, _, _, _, _⟩ := Sl.of_own hown4
            clear hown4 hgrow4 hat4 ST3 HO3
            go_wp2_with fail
            go_roundw
            case rel => exact ⟨k + 1, by go_num, by omega, ⟨_, _, _, _, ST4.out, BK.out.put _ _ rfl, by (try simp only [List.length_append, List.length_singleton]); omega, by (try simp only [List.length_append, List.length_singleton]); omega, by (try simp only [List.length_append, List.length_singleton]); omega, SH.out.app (Short.one hxs)⟩⟩
            case measure => simp [intOf]; omega
        have b0 : (kind == 0) = false := beq_eq_false_iff_ne.2 k0
        have b2 : (kind == 2) = false := beq_eq_false_iff_ne.2 k2
        have b3 : (kind == 3) = false := beq_eq_false_iff_ne.2 k3
        have b4 : (kind == 4) = false := beq_eq_false_iff_ne.2 k4
        clear k0 k2 k3 k4
        go_wp2_with fail
        go_roundw
        case rel => exact ⟨k + 1, by go_num, by omega, ⟨_, _, _, _, ST2.out, BK.out, by omega, by omega, by omega, SH.out⟩⟩
        case measure => simp [intOf]; omega
      · have hr' : at_ < 0 ∨ (l.length : Int) ≤ at_ := by omega
        have HR' := Lib.hid hr'
        clear hr hr'
        refine (at_no W1 g v _ l ST1.out.net.net at_ HR'.out).mono ?_
        rintro e W2 ⟨rfl, rfl⟩
        obtain ⟨c0, c1, c2, c3⟩ := CELLS.out W2 BK1.out
        have ST2 := ST1
        have HC2 := HC1
        have HCS2 := HCS1
        have BK2 := BK1
        clear ST1 HC1 HCS1 BK1
        by_cases k0 : kind = 0
        · subst k0
          go_wp2_with fail
          refine (send W2 g v _ l ST2.out.net.net (by omega) dst C cd raw HC2.out HCN.out (by omega)).mono ?_
          rintro e W3 (⟨_, rfl, hb⟩ | ⟨_, rfl, hs⟩)
          · have ST3 := Lib.hid (ST2.out.keep hb)
            clear hb ST2
            go_wp2_with fail
            go_roundw
            case rel => exact ⟨k + 1, by go_num, by omega, ⟨_, _, _, _, ST3.out, BK.out, by omega, by omega, by omega, SH.out⟩⟩
            case measure => simp [intOf]; omega
          · obtain ⟨v3, u3, hst3, hk3⟩ := ST2.out.sent hs
            have CS3 := Lib.hid (HCS2.out.net ST2.out.net hk3)
            have BK3 := Lib.hid (ST2.out.net.blk BK2.out hk3 (by decide) (by decide))
            have ST3 := Lib.hid hst3
            obtain ⟨c0, c1, c2, c3⟩ := CELLS.out W3 BK3.out
            clear hst3 hk3 hs ST2 HC2 HCS2 BK2
            have HO3 : Hid (∀ o : Obj, (W3.alloc o).ownsRow w.heap.size 35 1 _ ins.length (ins.map Ms.v)) := fun o => own_kp ST3.out.ins.own ((Kp.refl (fun _ => False) _).alloc _) (fun _ _ e => e)
            go_wp2_with (at_builtin; refine wpList_append_sl _ rfl (.tmp 56) (.tmp 59) 50 rfl w.heap.size 35 i0 _ 1 24 Try.underlying50 hi hz0 hz1 hz2 rfl (by decide) _ ins.length (ins.map Ms.v) rfl (HO3.out _) (some ⟨_, 0, none⟩) 1 1 [.slice C raw.length cd] rfl (one_sl _ _ _) (by intro z hz; obtain rfl := List.mem_singleton.1 hz; rfl) (by unfold maxLen; omega) (by omega) (by have := ST3.out.size; simp; omega) ?_; intro vn W4 hown4 hgrow4 hat4)
            have ST4 := Lib.hid (ST3.out.push CS3.out hown4 hgrow4 hat4)
            obtain ⟨An, cn, rfl, _, _, _, _, _⟩ := Sl.of_own hown4
            clear hown4 hgrow4 hat4 ST3 HO3
            go_wp2_with fail
            go_roundw
            case rel => exact ⟨k + 1, by go_num, by omega, ⟨_, _, _, _, ST4.out, BK.out.put _ _ rfl, by (try simp only [List.length_append, List.length_singleton]); omega, by (try simp only [List.length_append, List.length_singleton]); omega, by (try simp only [List.length_append, List.length_singleton]); omega, SH.out.app (Short.one hrw)⟩⟩
            case measure => simp [intOf]; omega
        by_cases k2 : kind = 2
        · subst k2
          go_wp2_with fail
          refine (take_no W2 g v _ l ST2.out.net.net at_ HR'.out).mono ?_
          rintro e W3 ⟨rfl, rfl⟩
          go_wp2_with fail
          go_roundw
          case rel => exact ⟨k + 1, by go_num, by omega, ⟨_, _, _, _, ST2.out, BK.out, by omega, by omega, by omega, SH.out⟩⟩
          case measure => simp [intOf]; omega
        by_cases k3 : kind = 3
        · subst k3
          go_wp2_with fail
          refine (drop_no W2 g v _ l ST2.out.net.net at_ HR'.out).mono ?_
          rintro e W3 ⟨rfl, rfl⟩
          go_wp2_with fail
          go_roundw
          case rel => exact ⟨k + 1, by go_num, by omega, ⟨_, _, _, _, ST2.out, BK.out, by omega, by omega, by omega, SH.out⟩⟩
          case measure => simp [intOf]; omega
        by_cases k4 : kind = 4
        · subst k4
          go_wp2_with fail
          refine (double_no W2 g v _ l ST2.out.net.net at_ HR'.out).mono ?_
          rintro e W3 ⟨rfl, rfl⟩
          go_wp2_with fail
          go_roundw
          case rel => exact ⟨k + 1, by go_num, by omega, ⟨_, _, _, _, ST2.out, BK.out, by omega, by omega, by omega, SH.out⟩⟩
          case measure => simp [intOf]; omega
        have b0 : (kind == 0) = false := beq_eq_false_iff_ne.2 k0
        have b2 : (kind == 2) = false := beq_eq_false_iff_ne.2 k2
        have b3 : (kind == 3) = false := beq_eq_false_iff_ne.2 k3
        have b4 : (kind == 4) = false := beq_eq_false_iff_ne.2 k4
        clear k0 k2 k3 k4
        go_wp2_with fail
        go_roundw
        case rel => exact ⟨k + 1, by go_num, by omega, ⟨_, _, _, _, ST2.out, BK.out, by omega, by omega, by omega, SH.out⟩⟩
        case measure => simp [intOf]; omega
    · obtain rfl : k = ops.length := by omega
      obtain ⟨v, l, ins, outs, hst, hbk, hll, hli, hlo, hsh⟩ := HR.out.ex
      clear HR
      have ST := Lib.hid hst
      have BK := Lib.hid hbk
      have SH := Lib.hid hsh
      clear hst hbk hsh
      go_wp2_with fail
      refine (len wr g v _ l ST.out.net.net).mono ?_
      rintro e wz ⟨rfl, rfl⟩
      have LR : Hid (Lst wz.heap.size wz (.slice none 0 0) []) := Lst.nil _ _
      go_wp2_with fail
      go_loopw [17, 103] (fun vr v103 wq => ∃ (j : Nat) (rs : List Ms), v103 = .int .i64 j ∧ j ≤ l.length ∧ rs.length = j ∧ Hid (rs.map Ms.raw = (l.take j).map Ms.raw) ∧ Hid (Lst wz.heap.size wq vr rs) ∧ Hid (Below wz.heap.size wz wq)) (fun _ v103 _ => l.length - (intOf v103).toNat)
      case atStart => exact ⟨0, [], rfl, Nat.zero_le _, rfl, by simp [Hid], LR, Below.refl _ _⟩
      case round =>
        obtain ⟨j, rs, rfl, hj, hrs, HM, HL, HBq⟩ := hrel
        by_cases hjl : j < l.length
        · obtain ⟨x, hx⟩ : ∃ x, l[j]? = some x := ⟨_, List.getElem?_eq_getElem hjl⟩
          have HX := Lib.hid hx
          have hxs : x.raw.length ≤ 140737488351232 := SH.out x (List.mem_of_getElem? hx)
          clear hx
          go_wp2_with fail
          refine (at_yes wr g v _ l (ST.out.net.net.below HBq.out) j x HX.out (by omega)).mono ?_
          rintro e W3 ⟨u, rfl, hown, hbel⟩
          obtain ⟨U, cu, rfl, _, _, _, _, _⟩ := Sl.of_own hown
          have Y3 : Hid (Ms.Safe wz.heap.size W3 ⟨x.dst, .slice U x.raw.length cu, x.raw⟩) := .inl (own_base hown (Nat.zero_le _))
          have HB3 : Hid (Below wz.heap.size wz W3) := HBq.out.trans (hbel.mono HBq.out.size)
          have HL3 := Lib.hid (HL.out.below hbel)
          have HO3 : Hid (∀ o : Obj, (W3.alloc o).ownsRow wz.heap.size 35 1 _ rs.length (rs.map Ms.v)) := fun o => own_kp HL3.out.own ((Kp.refl (fun _ => False) _).alloc _) (fun _ _ e => e)
          clear hown hbel HL HBq
          go_wp2_with (at_builtin; refine wpList_append_sl _ rfl (.tmp 113) (.tmp 115) 50 rfl wz.heap.size 35 i0 _ 1 24 Try.underlying50 hi hz0 hz1 hz2 rfl (by decide) _ rs.length (rs.map Ms.v) rfl (HO3.out _) (some ⟨_, 0, none⟩) 1 1 [.slice U x.raw.length cu] rfl (one_sl _ _ _) (by intro z hz; obtain rfl := List.mem_singleton.1 hz; rfl) (by unfold maxLen; omega) (by omega) (by have := HB3.out.size; simp; omega) ?_; intro vn W4 hown4 hgrow4 hat4)
          obtain ⟨hL4, hB4⟩ := HL3.out.push Y3.out HB3.out.size hown4 hgrow4
          have HL4 := Lib.hid hL4
          have HB4 : Hid (Below wz.heap.size wz W4) := HB3.out.trans hB4
          have HM4 : Hid ((rs ++ [(⟨x.dst, .slice U x.raw.length cu, x.raw⟩ : Ms)]).map Ms.raw = (l.take (j + 1)).map Ms.raw) := by
            show _ = _
            rw [List.map_append, HM.out, List.take_add_one, HX.out, List.map_append]
            rfl
          clear hL4 hB4 hown4 hgrow4 hat4 HL3 HB3 HO3 HM
          go_wp2_with fail
          go_roundw
          case rel => exact ⟨j + 1, _, by go_num, by omega, by rw [List.length_append, hrs]; rfl, HM4, HL4, HB4⟩
          case measure => simp [intOf]; omega
        · obtain rfl : j = l.length := by omega
          have HB := Lib.hid (ST.out.below.trans (HBq.out.mono ST.out.size))
          obtain ⟨Ai, ci, rfl, _, _, hsi, hxi⟩ := (ST.out.ins.below HBq.out).slice
          obtain ⟨Ao, co, rfl, _, _, hso, hxo⟩ := (ST.out.outs.below HBq.out).slice
          obtain ⟨Ar, cr, rfl, _, _, hsr, hxr⟩ := HL.out.slice
          have SI := Lib.hid hsi
          have SO := Lib.hid hso
          have SR := Lib.hid hsr
          have XI := Lib.hid hxi
          have XO := Lib.hid hxo
          have XR := Lib.hid hxr
          have hlen := BK.out.len
          have hcr := fun s => cnt_raws (l := rs) (l' := l) (by rw [HM.out, List.take_of_length_le (Nat.le_refl _)]) s
          have HCR := Lib.hid hcr
          have HLEN : Hid ((ins.length : Int) = (outs.length : Int) + (rs.length : Int)) := by show _ = _; rw [hrs]; omega
          have HRS := Lib.hid hrs
          have hrb : rs.length ≤ ops.length := by rw [hrs]; omega
          clear hsi hso hsr hxi hxo hxr hcr hlen hrs HM HL ST HBq
          go_wp2_with fail
          obtain ⟨wb, hwb⟩ : ∃ wb, wb = wr := ⟨_, rfl⟩
          rw [← hwb] at SI SO SR XI XO XR HB ⊢
          clear hwb
          go_loopw [23, 120] (fun v23 v120 wq => ∃ j : Nat, v120 = .int .i64 j ∧ j ≤ ins.length ∧ Hid (Below wb.heap.size wb wq)) (fun _ v120 _ => ins.length - (intOf v120).toNat)
          case atStart => exact ⟨0, rfl, Nat.zero_le _, Below.refl _ _⟩
          case round =>
            obtain ⟨j, rfl, hj, HBq⟩ := hrel
            by_cases hjl : j < ins.length
            · obtain ⟨x, hx⟩ : ∃ x, ins[j]? = some x := ⟨_, List.getElem?_eq_getElem hjl⟩
              have hxi := XI.out x (List.mem_of_getElem? hx)
              obtain ⟨C, cc, hv, hcs, _⟩ := hxi
              obtain ⟨bi, oi, rfl, hcell⟩ := (SI.out.below HBq.out).at_ (j := j) (u := .slice C x.raw.length cc) (by rw [List.getElem?_map, hx, ← hv]; rfl)
              have HCS := Lib.hid hcs
              have hbag := BK.out.bag (strOfNums x.raw).toList
              rw [← HCR.out] at hbag
              have hr1 : cnt outs (strOfNums x.raw).toList ≤ outs.length := List.countP_le_length
              have hr2 : cnt rs (strOfNums x.raw).toList ≤ rs.length := List.countP_le_length
              have h1 := fun (w : World) (hA : Sl w 1 (some ⟨bi, oi, none⟩) ins.length (ins.map Ms.v)) (hB : ∀ y ∈ ins, y.Reads w) (hC : Sl w 1 C x.raw.length (bcs x.raw)) => count _ C ci cc ins x.raw w hA hB hC (by omega)
              rw [hbag, Int.natCast_add] at h1
              have H1 := Lib.hid h1
              clear h1 hbag hx hv hcs
              go_wp2_with fail
              refine (H1.out _ (SI.out.below HBq.out) (fun x hx => (XI.out x hx).below HBq.out) (HCS.out.below HBq.out)).mono ?_
              rintro e W3 ⟨rfl, hb⟩
              have HB3 : Hid (Below wb.heap.size wb W3) := HBq.out.trans (hb.mono HBq.out.size)
              clear hb HBq H1
              go_wp2_with fail
              refine (count Ao C co cc outs x.raw _ (SO.out.below HB3.out) (fun x hx => (XO.out x hx).below HB3.out) (HCS.out.below HB3.out) (by omega)).mono ?_
              rintro e W4 ⟨rfl, hb⟩
              have HB4 : Hid (Below wb.heap.size wb W4) := HB3.out.trans (hb.mono HB3.out.size)
              clear hb HB3
              go_wp2_with fail
              refine (count Ar C cr cc rs x.raw _ (SR.out.below HB4.out) (fun x hx => (XR.out x hx).below HB4.out) (HCS.out.below HB4.out) (by omega)).mono ?_
              rintro e W5 ⟨rfl, hb⟩
              have HB5 : Hid (Below wb.heap.size wb W5) := HB4.out.trans (hb.mono HB4.out.size)
              clear hb HB4
              generalize cnt outs (strOfNums x.raw).toList = p at hr1 ⊢
              generalize cnt rs (strOfNums x.raw).toList = q at hr2 ⊢
              go_wp2_with fail
              go_roundw
              case rel => exact ⟨j + 1, by go_num, by omega, HB5⟩
              case measure => simp [intOf]; omega
            · obtain rfl : j = ins.length := by omega
              have hl := HLEN.out
              rw [hl]
              go_wp2_with fail
              go_ret
              exact ⟨rfl, HB.out.trans (HBq.out.mono HB.out.size)⟩

end Go.Proofs.Ytogiedephnappaa.Net
