/- The contract of To's closure. -/
import Derived.Test.YtogiedephnappaaIter
import Derived.Shelf.Abstract
namespace Go.Proofs.Ytogiedephnappaa.Net
open Go.RowKit Go.Proofs.Ytogiedephnappaa.Mem
attribute [local go_sem] Oper.semAt_some wide_depth

set_option maxRecDepth 100000 in
set_option maxHeartbeats 2000000 in
theorem all1_nil (l Bn : Nat) (A : Option Addr) (c : Nat) (J0 : World → Prop) (W : World) (hBn : W.cell? ⟨Bn, 0, none⟩ = some (.slice A 0 c)) (h0 : J0 W) :
    CallsIn Fence.wide 0 Try.prog 36 #[.func (.yield l) #[] #[], .pointer (some ⟨Bn, 0, none⟩)] W fun e W' => (∃ v, e = .returned v) ∧ J0 W' := by
  have H0 := Lib.hid h0
  clear h0
  refine callsIn_of_wp Try.func36 rfl trivial ?_ rfl
  simp only [Try.ntmps36, List.size_toArray, List.length_cons, List.length_nil, Nat.reduceAdd, Nat.reduceSub, Array.replicate_succ, Array.replicate_zero, List.push_toArray, List.append_toArray, List.nil_append, List.cons_append]
  gi_wp2
  gi_loopw [7] (fun i wr => i = .int .i64 0 ∧ Hid (J0 wr)) (fun _ _ => 0)
  case atStart => exact ⟨rfl, H0⟩
  case round =>
    obtain ⟨rfl, HJ⟩ := hrel
    gi_wp2
    go_end0
    exact ⟨⟨_, rfl⟩, HJ.out⟩

theorem grown_cell {B : Nat} {W W' : World} {row : Option Nat} (hg : W.grownBy W' row) (hr : ∀ r, row = some r → B ≤ r ∧ ∃ o : Obj, W.heap[r]? = some o ∧ o.isCells = false) {p : Addr} {v : Value} (h : W.cell? p = some v) : W'.cell? p = some v := by
  refine hg.cell h (fun e => ?_)
  obtain ⟨_, o, ho, hc⟩ := hr _ e.symm
  obtain ⟨o', ho', hc'⟩ := cells_of_cell h
  rw [ho] at ho'
  injection ho' with ho'
  subst ho'
  rw [hc] at hc'
  cases hc'

theorem ownfrom_mono {β : Type} {B B' : Nat} {I : β → World → Prop} (h : OwnFrom B I) (hb : B ≤ B') : OwnFrom B' I := fun s W W' row hs hg hr => h s W W' row hs hg (fun r e => ⟨Nat.le_trans hb (hr r e).1, (hr r e).2⟩)

/-- What the round of To's closure is walked from. -/
def Ax24 (tm : Ms → Nat → Array Value) (xs : List Ms) (k : Nat) (a' : Act) (W : World) : Prop :=
  ∃ x B5, xs[k]? = some x ∧ a' = { tmps := tm x B5, defers := [] } ∧ W.cell? ⟨B5, 0, none⟩ = some (.int .i64 x.dst) ∧ W.cell? ⟨B5, 1, none⟩ = some x.v

/-- Between two of its rounds. -/
def I24 (J : Nat → Nat → World → Prop) (Wc Wq : World) (Q k : Nat) (W : World) : Prop := J Q k W ∧ Q ≤ W.heap.size ∧ Kept Wc.heap.size Wq.heap.size Wq W

set_option linter.unusedSimpArgs false in
set_option maxRecDepth 100000 in
set_option maxHeartbeats 2000000 in
theorem to1 (l B1 B2 g : Nat) (v : Value) (room dst : Int) (xs : List Ms) (J : Nat → Nat → World → Prop) (Jx : World → Prop) (Wc : World)
    (c1 : Wc.cell? ⟨B1, 0, none⟩ = some (.pointer (some ⟨g, 0, none⟩))) (hN : Nt Wc g v room xs) (hlen : xs.length < 7000000000000) (hsh : ∀ x ∈ xs, x.raw.length ≤ 140737488351232)
    (hJo : ∀ Q, OwnFrom Wc.heap.size (J Q)) (hJxo : OwnFrom Wc.heap.size (fun (_ : Unit) W => Jx W))
    (hto : ∀ Q k W, J Q k W → W.cell? ⟨B2, 0, none⟩ = some (.int .i64 dst))
    (hraw : ∀ Q k W, J Q k W → ∀ x ∈ xs, x.Lies W)
    (h0 : ∀ Q W1, Below Wc.heap.size Wc W1 → Wc.heap.size ≤ Q → Q ≤ W1.heap.size → J Q 0 W1)
    (hskip : ∀ Q k x W1, xs[k]? = some x → x.dst ≠ dst → J Q k W1 → J Q (k + 1) W1)
    (hY : ∀ Q k x W1 U cu, Wc.heap.size ≤ Q → Q ≤ W1.heap.size → xs[k]? = some x → x.dst = dst → J Q k W1 → W1.ownsRow Q 5 1 (.slice U x.raw.length cu) x.raw.length (bcs x.raw) →
      YieldAt Fence.wide 0 Try.prog l #[.int .i64 k, .slice U x.raw.length cu] W1 fun e W' =>
        Kept Wc.heap.size Q W1 W' ∧ ((e = .returned (.bool true) ∧ J Q (k + 1) W') ∨ (e = .returned (.bool false) ∧ Jx W'))) :
    CallsIn Fence.wide 0 Try.prog 24 #[.func (.yield l) #[] #[], .pointer (some ⟨B1, 0, none⟩), .pointer (some ⟨B2, 0, none⟩)] Wc fun e W' => (∃ v, e = .returned v) ∧ ((∃ Q, J Q xs.length W') ∨ Jx W') := by
  obtain ⟨A, c, rfl, hlc, hcm, hnil, hsl, _⟩ := hN.slice
  have n1 : Wc.cell? ⟨g, 1, none⟩ = some (.slice A xs.length c) := (hN.blk.cell 1).trans rfl
  have HY := Lib.hid hY
  have HSK := Lib.hid hskip
  have H0 := Lib.hid h0
  have HRAW := Lib.hid hraw
  have HTO := Lib.hid hto
  have HJO := Lib.hid hJo
  have HJX := Lib.hid hJxo
  have HN := Lib.hid hN
  have HSL := Lib.hid hsl
  have HSH := Lib.hid hsh
  have HNIL := Lib.hid hnil
  clear hY hskip h0 hraw hto hJo hJxo hN hsl hsh hnil
  refine callsIn_of_wp_marks Try.func24 rfl trivial ?_ rfl
  refine wpIn_wide.2 ?_
  simp only [Try.ntmps24, List.size_toArray, List.length_cons, List.length_nil, Nat.reduceAdd, Nat.reduceSub, Array.replicate_succ, Array.replicate_zero, List.push_toArray, List.append_toArray, List.nil_append, List.cons_append]
  have d1 := (World.cell?_alloc_lt Wc (.cells #[.func (.yield l) #[] #[]] 61) _ (block_lt c1)).trans c1
  have d2 := (World.cell?_alloc_lt Wc (.cells #[.func (.yield l) #[] #[]] 61) _ (block_lt n1)).trans n1
  clear c1 n1
  go_wp2_with fail
  refine (SlOne.clone A xs.length c (xs.flatMap Ms.cells) _ (HSL.out.alloc _) (Ms.cells_one HN.out.msg) (by omega) HNIL.out).mono ?_
  rintro e W2 ⟨vr, rfl, hown, hbel⟩
  obtain ⟨D, cD, rfl, _, _, _, hsl2, _⟩ := Sl.of_own hown
  have HSL2 := Lib.hid hsl2
  have HB2 := Lib.hid hbel
  have t3 : W2.cell? ⟨Wc.heap.size, 0, none⟩ = some (.func (.yield l) #[] #[]) := (hbel.cell (p := ⟨Wc.heap.size, 0, none⟩) (by simp)).trans (by simp)
  have hz2 : Wc.heap.size < W2.heap.size := by have := hbel.size; simp at this; omega
  have T3 := Lib.hid t3
  have HRow : Hid (∀ b o, D = some ⟨b, o, none⟩ → Wc.heap.size ≤ b ∧ b < W2.heap.size) := by
    intro b o e
    subst e
    have := hown.lt b rfl
    simp at this
    omega
  clear hown hbel hsl2 t3
  go_wp2_with fail
  refine (all_calls D xs.length cD W2).mono ?_
  rintro e Wq ⟨rfl, hWq⟩
  have hzq : Wq.heap.size = W2.heap.size + 1 := by rw [hWq]; simp
  have HBq : Hid (Below Wc.heap.size Wc Wq) := by
    rw [hWq]
    exact (((Below.refl _ _).alloc (Nat.le_refl _) _).trans (HB2.out.mono (by simp))).alloc (by omega) _
  have HTq : Hid (Wq.cell? ⟨Wc.heap.size, 0, none⟩ = some (.func (.yield l) #[] #[])) := by
    rw [hWq]; exact (World.cell?_alloc_lt _ _ _ (by exact hz2)).trans T3.out
  have HBx : Hid (Wq.cell? ⟨W2.heap.size, 0, none⟩ = some (.slice D xs.length cD)) := by
    rw [hWq]; simp [Hid]
  have HSLq : Hid (Sl Wq 2 D xs.length (xs.flatMap Ms.cells)) := by
    rw [hWq]; exact HSL2.out.alloc _
  clear hWq T3 HB2 HSL2
  go_wp2_with fail
  refine (wpIn_wide (n := 0)).1 ?_
  refine range_law (gf := 36) (lb := #[.pointer (some ⟨W2.heap.size, 0, none⟩)]) rfl (Go.Proofs.enters_of Try.func36 (by kernel_rfl) rfl) xs.length (fun Q => Q = Wq.heap.size + 2)
    (fun _ k args W => ∃ x, xs[k]? = some x ∧ args = #[.int .i64 k, .agg #[.int .i64 x.dst, x.v]])
    (I24 J Wc Wq) (fun cd W => cd = .ret ∧ Jx W) ?hI ?hIx ?hps ?h0 ?hseq
    (fun _ k _ a' W => Ax24 (fun x B5 => #[.func (.yield l) #[] #[], .pointer (some ⟨B1, 0, none⟩), .pointer (some ⟨B2, 0, none⟩), .pointer (some ⟨Wc.heap.size, 0, none⟩), .int .i64 k, .pointer (some ⟨B5, 0, none⟩), .pointer (some ⟨g, 0, none⟩), .pointer (some ⟨g, 0, none⟩),
      .pointer (some ⟨g, 1, none⟩), .slice A xs.length c, .slice D xs.length cD, .func (.func 36) #[] #[.pointer (some ⟨W2.heap.size, 0, none⟩)], .int .i64 k, .agg #[.int .i64 x.dst, x.v], undef, undef, undef, undef, undef, undef, undef, undef, undef, undef, undef, undef, undef]) xs k a' W) ?hAx ?hassign ?hbody ?hdone ?hstop
  case hI =>
    intro Q s W W' row hs hg hr
    obtain ⟨hj, hq, hk⟩ := hs
    exact ⟨ownfrom_mono (HJO.out Q) (by omega) s W W' row hj hg hr, Nat.le_trans hq hg.size, Nat.le_trans hk.size hg.size, fun r h1 h2 => (hg.block r (by have := hk.size; omega) (fun e => by have := (hr r e.symm).1; omega)).trans (hk.same r h1 h2)⟩
  case hIx =>
    intro cd W W' row hs hg hr
    exact ⟨hs.1, ownfrom_mono HJX.out (by omega) () W W' row hs.2 hg hr⟩
  case hps =>
    rintro Q k args W ⟨x, _, rfl⟩
    rfl
  case h0 =>
    intro Q W hb hQ hQ2 hqq
    exact ⟨H0.out Q W (HBq.out.trans (hb.mono HBq.out.size)) (by omega) hQ2, hQ2, Kept.below hb (Nat.le_refl _)⟩
  case hseq =>
    intro l2 J2 Jx2 W hbW hzW hJ2o hJx2o hJI h02 hstep hY2
    have hcellW : W.cell? ⟨W2.heap.size, 0, none⟩ = some (.slice D xs.length cD) := (hbW.cell (p := ⟨W2.heap.size, 0, none⟩) (by show W2.heap.size < Wq.heap.size; omega)).trans HBx.out
    have hst := h02 W.heap.size W (Below.refl _ _) (Nat.le_refl _) (Nat.le_refl _) hzW
    by_cases hx0 : xs.length = 0
    · rw [hx0] at hcellW
      refine (all1_nil l2 W2.heap.size D cD (fun W' => J2 W.heap.size 0 W') W hcellW hst).mono ?_
      rintro e W' ⟨hv, hj⟩
      exact ⟨hv, .inl ⟨W.heap.size, by rw [hx0]; exact hj⟩⟩
    · obtain ⟨b, o, rfl, hcells⟩ := HSLq.out.2 (by omega)
      refine (all1 l2 W2.heap.size b o xs.length cD xs rfl (by omega) ?one (fun k W' => J2 W.heap.size k W') Jx2 (fun k W' o hj => (hJ2o _).alloc o hj) ?hm ?hY W hcellW hst).mono (fun e W' ⟨hv, h⟩ => ⟨hv, h.imp (fun hj => ⟨_, hj⟩) id⟩)
      case one =>
        intro x hx
        obtain ⟨C, cc, hv, _⟩ := (HN.out.msg x hx).slice
        exact ⟨C, cc, hv⟩
      case hm =>
        intro k x W' hx hj
        obtain ⟨_, _, hkept⟩ := hJI _ k W' hj
        obtain ⟨hr1, hr2⟩ := HRow.out b o rfl
        have same : ∀ q, W'.cell? ⟨b, q, none⟩ = Wq.cell? ⟨b, q, none⟩ := fun q => cell_of_same (p := ⟨b, q, none⟩) (hkept.same b hr1 (by omega))
        refine ⟨(same _).trans (hcells (k * 2 + 0) _ (by rw [flat_at xs k 0 x hx (by omega)]; rfl)), (same _).trans ?_⟩
        rw [Nat.add_assoc]
        exact hcells (k * 2 + 1) _ (by rw [flat_at xs k 1 x hx (by omega)]; rfl)
      case hY =>
        intro k x W1 hx hj
        have hi := hJI _ k W1 hj
        exact (hY2 W.heap.size k _ W1 (Nat.le_refl _) hi.2.1 hzW (List.getElem?_eq_some_iff.1 hx).1 hj ⟨x, hx, rfl⟩).mono (fun e W' ⟨_, h⟩ => h)
  case hAx =>
    rintro Q k args a' s W W' row ⟨x, B5, hx, rfl, h1, h2⟩ hg hr
    exact ⟨x, B5, hx, rfl, grown_cell hg hr h1, grown_cell hg hr h2⟩
  case hassign =>
    rintro l2 Q k args W K hQ1 hQ2 hqq hk hi ⟨⟨xd, xv, xr⟩, hx, rfl⟩ hK
    obtain ⟨C, cc, hv, _⟩ := (HN.out.msg _ (List.mem_of_getElem? hx)).slice
    change xv = .slice C xr.length cc at hv
    subst hv
    have HK := Lib.hid hK
    have HI := Lib.hid hi
    have HX := Lib.hid hx
    clear hK hi hx hqq
    gi_wp2
    refine HK.out _ _ (Kept.below ((Below.refl W.heap.size W).alloc (Nat.le_refl _) _) hQ2) ⟨(HJO.out Q).alloc _ HI.out.1, by have := HI.out.2.1; simp; omega, HI.out.2.2.trans (Kept.below ((Below.refl W.heap.size W).alloc (Nat.le_refl _) _) HI.out.2.2.size)⟩ ⟨_, W.heap.size, HX.out, rfl, ?_, ?_⟩
    · simp
    · simp
  case hdone =>
    rintro Q W ⟨hj, _, _⟩ hD
    have HJ : Hid (J Q xs.length (W.putObj Wq.heap.size (.deferred none))) := (HJO.out Q).putObj _ hj (by omega) hD rfl
    clear hj
    gi_wp2
    refine ⟨by simp, .inl ⟨_, _, rfl, run_takeDeferred hD, ?_⟩⟩
    exact ⟨_, results_none rfl _ _ _, ⟨_, rfl⟩, .inl ⟨Q, HJ.out⟩⟩
  case hstop =>
    rintro cd W ⟨rfl, hj⟩ hD
    have HJ : Hid (Jx (W.putObj Wq.heap.size (.deferred none))) := HJX.out.putObj (s := ()) _ hj (by omega) hD rfl
    clear hj
    gi_wp2
    refine ⟨by simp, .inl ⟨_, _, rfl, run_takeDeferred hD, ?_⟩⟩
    exact ⟨_, results_none rfl _ _ _, ⟨_, rfl⟩, .inr HJ.out⟩
  case hbody =>
    rintro l2 Q k args a' W hQ1 hQ2 hqq hk hi ⟨⟨xd, xv, xr⟩, B5, hx, rfl, b0, b1⟩
    obtain ⟨C, cc, hv, _, _, hnilx, hslx, _⟩ := (HRAW.out Q k W hi.1 _ (List.mem_of_getElem? hx)).slice
    change xv = .slice C xr.length cc at hv
    subst hv
    change Sl W 1 C xr.length (bcs xr) at hslx
    have hxs : xr.length ≤ 140737488351232 := HSH.out _ (List.mem_of_getElem? hx)
    have p2 := HTO.out Q k W hi.1
    have p3 : W.cell? ⟨Wc.heap.size, 0, none⟩ = some (.func (.yield l) #[] #[]) := (cell_of_same (p := ⟨Wc.heap.size, 0, none⟩) (hi.2.2.same _ (Nat.le_refl _) (by show Wc.heap.size < _; omega))).trans HTq.out
    have HX := Lib.hid hx
    have HI := Lib.hid hi
    have HNX := Lib.hid hnilx
    have HSX := Lib.hid hslx
    have HQ : Hid (Q = Wq.heap.size + 2) := hqq
    clear hx hi hnilx hslx hqq
    by_cases hd : xd = dst
    · subst hd
      gi_wp2
      refine region_round (by kernel_rfl) (by kernel_rfl) ?_
      refine wpAnyIn_take (i := 0) (v := ?_) rfl rfl (by kernel_rfl) (by kernel_rfl) (by kernel_rfl) (fun _ _ _ h => h) ⟨Or.inl ⟨by rfl, ?_⟩, fun _ => rfl⟩ ?_
      rotate_left
      · intro w; first | (go_simp; done) | (go_simp; with_reducible rfl)
      try simp only [List.getElem_toArray, List.getElem_cons_zero, List.getElem_cons_succ, Act.put, List.setIfInBounds_toArray, List.set_cons_zero, List.set_cons_succ]
      refine wpAnyIn_ready (rs := [1, 2]) (by kernel_rfl) (by simp) ?_
      refine AllReadyIn.cons rfl (fun K hK => ?_) (AllReadyIn.cons rfl (fun K hK => ?_) AllReadyIn.nil)
      · skip
        have HK := Lib.hid hK
        clear hK
        try simp only [List.getElem_toArray, List.getElem_cons_zero, List.getElem_cons_succ]
        go_simp
        refine HK.out _ _ ?_
        clear HK K
        try simp only [List.getElem_toArray, List.getElem_cons_zero, List.getElem_cons_succ, Act.put, List.setIfInBounds_toArray, List.set_cons_zero, List.set_cons_succ]
        refine wpAnyIn_ready (rs := [2]) (by kernel_rfl) (by simp) ?_
        refine AllReadyIn.cons rfl (fun K hK => ?_) AllReadyIn.nil
        have HK := Lib.hid hK
        clear hK
        try simp only [List.getElem_toArray, List.getElem_cons_zero, List.getElem_cons_succ]
        go_simp
        refine HK.out _ _ ?_
        clear HK K
        try simp only [List.getElem_toArray, List.getElem_cons_zero, List.getElem_cons_succ, Act.put, List.setIfInBounds_toArray, List.set_cons_zero, List.set_cons_succ]
        refine wpAnyIn_take (i := 3) (v := ?_) rfl rfl (by kernel_rfl) (by kernel_rfl) (by kernel_rfl) (fun _ _ _ h => h) ⟨Or.inl ⟨by rfl, ?_⟩, fun _ => rfl⟩ ?_
        rotate_left
        · intro w; first | (go_simp; done) | (go_simp; with_reducible rfl)
        try simp only [List.getElem_toArray, List.getElem_cons_zero, List.getElem_cons_succ, Act.put, List.setIfInBounds_toArray, List.set_cons_zero, List.set_cons_succ]
        refine wpAnyIn_take (i := 4) (v := ?_) rfl rfl (by kernel_rfl) (by kernel_rfl) (by kernel_rfl) (fun _ _ _ h => h) ⟨Or.inl ⟨by rfl, ?_⟩, fun _ => rfl⟩ ?_
        rotate_left
        · intro w; first | (go_simp; done) | (go_simp; with_reducible rfl)
        try simp only [List.getElem_toArray, List.getElem_cons_zero, List.getElem_cons_succ, Act.put, List.setIfInBounds_toArray, List.set_cons_zero, List.set_cons_succ]
        refine wpAnyIn_take (i := 6) (v := ?_) rfl rfl (by kernel_rfl) (by kernel_rfl) (by kernel_rfl) (fun _ _ _ h => h) ⟨Or.inl ⟨by rfl, ?_⟩, fun _ => rfl⟩ ?_
        rotate_left
        · intro w; first | (go_simp; done) | (go_simp; with_reducible rfl)
        try simp only [List.getElem_toArray, List.getElem_cons_zero, List.getElem_cons_succ, Act.put, List.setIfInBounds_toArray, List.set_cons_zero, List.set_cons_succ]
        refine wpAnyIn_take (i := 7) (v := ?_) rfl rfl (by kernel_rfl) (by kernel_rfl) (by kernel_rfl) (fun _ _ _ h => h) ⟨Or.inl ⟨by rfl, ?_⟩, fun _ => rfl⟩ ?_
        rotate_left
        · intro w; first | (go_simp; done) | (go_simp; with_reducible rfl)
        try simp only [List.getElem_toArray, List.getElem_cons_zero, List.getElem_cons_succ, Act.put, List.setIfInBounds_toArray, List.set_cons_zero, List.set_cons_succ]
        refine wpAnyIn_ready (rs := [5, 8]) (by kernel_rfl) (by simp) ?_
        refine AllReadyIn.cons rfl (fun K hK => ?_) (AllReadyIn.cons rfl (fun K hK => ?_) AllReadyIn.nil)
        · skip
          have HK := Lib.hid hK
          clear hK
          try simp only [List.getElem_toArray, List.getElem_cons_zero, List.getElem_cons_succ]
          go_simp
          refine HK.out _ _ ?_
          clear HK K
          try simp only [List.getElem_toArray, List.getElem_cons_zero, List.getElem_cons_succ, Act.put, List.setIfInBounds_toArray, List.set_cons_zero, List.set_cons_succ]
          refine wpAnyIn_ready (rs := [8]) (by kernel_rfl) (by simp) ?_
          refine AllReadyIn.cons rfl (fun K hK => ?_) AllReadyIn.nil
          have HK := Lib.hid hK
          clear hK
          try simp only [List.getElem_toArray, List.getElem_cons_zero, List.getElem_cons_succ]
          go_simp
          refine HK.out _ _ ?_
          clear HK K
          try simp only [List.getElem_toArray, List.getElem_cons_zero, List.getElem_cons_succ, Act.put, List.setIfInBounds_toArray, List.set_cons_zero, List.set_cons_succ]
          refine wpAnyIn_ready (rs := [9]) (by kernel_rfl) (by simp) ?_
          refine AllReadyIn.cons rfl (fun K hK => ?_) AllReadyIn.nil
          have HK := Lib.hid hK
          clear hK
          try simp only [List.getElem_toArray, List.getElem_cons_zero, List.getElem_cons_succ]
          go_simp
          refine ⟨trivial, callsIn_wide.2 ((SlBytes.clone C xr.length cc (bcs xr) W.drew HSX.out.drew (bcs_one _) (by omega) HNX.out).mono ?_)⟩
          rintro e W3 ⟨u, rfl, hown, hbel⟩
          obtain ⟨U, cu, rfl, _, _, _, _, _⟩ := Sl.of_own hown
          have hb3 : Below W.heap.size W W3 := (Below.refl _ _).drew.trans hbel
          have p3n : W3.cell? ⟨Wc.heap.size, 0, none⟩ = some (.func (.yield l) #[] #[]) := (hb3.cell (p := ⟨Wc.heap.size, 0, none⟩) (block_lt p3)).trans p3
          have HJ3 : Hid (J Q k W3) := (HJO.out Q) k W W3 none HI.out.1 (grown_of_below hb3 none) (fun r e => by cases e)
          have HO3 : Hid (W3.ownsRow Q 5 1 (.slice U xr.length cu) xr.length (bcs xr)) := own_base hown hQ2
          have HB3 := Lib.hid hb3
          have hz3 : Q ≤ W3.heap.size := Nat.le_trans hQ2 hb3.size
          clear hown hbel hb3
          refine HK.out _ _ ?_
          clear HK K
          try simp only [List.getElem_toArray, List.getElem_cons_zero, List.getElem_cons_succ, Act.put, List.setIfInBounds_toArray, List.set_cons_zero, List.set_cons_succ]
          refine wpAnyIn_ready (rs := [10]) (by kernel_rfl) (by simp) ?_
          refine AllReadyIn.cons rfl (fun K hK => ?_) AllReadyIn.nil
          have HK := Lib.hid hK
          clear hK
          try simp only [List.getElem_toArray, List.getElem_cons_zero, List.getElem_cons_succ]
          obtain ⟨fn, tmps, assign, body, hy, hR⟩ := HY.out Q k _ W3 U cu (by omega) hz3 HX.out rfl HJ3.out HO3.out
          dsimp only at hy
          go_simp
          refine hR.mono ?_
          rintro e W4 ⟨hkept, hres⟩
          obtain ⟨bb, rfl, hres2⟩ : ∃ bb, e = .returned (.bool bb) ∧ ((bb = true ∧ J Q (k + 1) W4) ∨ (bb = false ∧ Jx W4)) := by rcases hres with ⟨rfl, h⟩ | ⟨rfl, h⟩; exact ⟨_, rfl, .inl ⟨rfl, h⟩⟩; exact ⟨_, rfl, .inr ⟨rfl, h⟩⟩
          have HK4 : Hid (Kept Wc.heap.size Q W3 W4) := hkept
          have HR4 := Lib.hid hres2
          clear hres hres2 hkept hy hR
          refine HK.out _ _ ?_
          clear HK K
          try simp only [List.getElem_toArray, List.getElem_cons_zero, List.getElem_cons_succ, Act.put, List.setIfInBounds_toArray, List.set_cons_zero, List.set_cons_succ]
          refine wpAnyIn_take (i := 11) (v := ?_) rfl rfl (by kernel_rfl) (by kernel_rfl) (by kernel_rfl) (fun _ _ _ h => h) ⟨Or.inl ⟨by rfl, ?_⟩, fun _ => rfl⟩ ?_
          rotate_left
          · intro w; first | (go_simp; done) | (go_simp; with_reducible rfl)
          try simp only [List.getElem_toArray, List.getElem_cons_zero, List.getElem_cons_succ, Act.put, List.setIfInBounds_toArray, List.set_cons_zero, List.set_cons_succ]
          refine wpAnyIn_take (i := 12) (v := ?_) rfl rfl (by kernel_rfl) (by kernel_rfl) (by kernel_rfl) (fun _ _ _ h => h) ⟨Or.inl ⟨by rfl, ?_⟩, fun _ => rfl⟩ ?_
          rotate_left
          · intro w; first | (go_simp; done) | (go_simp; with_reducible rfl)
          try simp only [List.getElem_toArray, List.getElem_cons_zero, List.getElem_cons_succ, Act.put, List.setIfInBounds_toArray, List.set_cons_zero, List.set_cons_succ]
          refine wpAnyIn_done (by kernel_rfl) ?_ _
          (rcases HR4.out with ⟨rfl, hj⟩ | ⟨rfl, hj⟩ <;> (have HJ4 := Lib.hid hj; clear hj HR4; gi_wp2; first | exact ⟨(Kept.below HB3.out hQ2).trans (HK4.out.mono (by omega) (Nat.le_refl _)), HJ4.out, Nat.le_trans hz3 HK4.out.size, HI.out.2.2.trans ((Kept.below HB3.out (by omega)).trans (HK4.out.mono (Nat.le_refl _) (by omega)))⟩ | exact ⟨(Kept.below HB3.out hQ2).trans (HK4.out.mono (by omega) (Nat.le_refl _)), rfl, HJ4.out⟩))
        · skip
          have HK := Lib.hid hK
          clear hK
          try simp only [List.getElem_toArray, List.getElem_cons_zero, List.getElem_cons_succ]
          go_simp
          refine HK.out _ _ ?_
          clear HK K
          try simp only [List.getElem_toArray, List.getElem_cons_zero, List.getElem_cons_succ, Act.put, List.setIfInBounds_toArray, List.set_cons_zero, List.set_cons_succ]
          refine wpAnyIn_ready (rs := [5, 9]) (by kernel_rfl) (by simp) ?_
          refine AllReadyIn.cons rfl (fun K hK => ?_) (AllReadyIn.cons rfl (fun K hK => ?_) AllReadyIn.nil)
          · skip
            have HK := Lib.hid hK
            clear hK
            try simp only [List.getElem_toArray, List.getElem_cons_zero, List.getElem_cons_succ]
            go_simp
            refine HK.out _ _ ?_
            clear HK K
            try simp only [List.getElem_toArray, List.getElem_cons_zero, List.getElem_cons_succ, Act.put, List.setIfInBounds_toArray, List.set_cons_zero, List.set_cons_succ]
            refine wpAnyIn_ready (rs := [9]) (by kernel_rfl) (by simp) ?_
            refine AllReadyIn.cons rfl (fun K hK => ?_) AllReadyIn.nil
            have HK := Lib.hid hK
            clear hK
            try simp only [List.getElem_toArray, List.getElem_cons_zero, List.getElem_cons_succ]
            go_simp
            refine ⟨trivial, callsIn_wide.2 ((SlBytes.clone C xr.length cc (bcs xr) W.drew HSX.out.drew (bcs_one _) (by omega) HNX.out).mono ?_)⟩
            rintro e W3 ⟨u, rfl, hown, hbel⟩
            obtain ⟨U, cu, rfl, _, _, _, _, _⟩ := Sl.of_own hown
            have hb3 : Below W.heap.size W W3 := (Below.refl _ _).drew.trans hbel
            have p3n : W3.cell? ⟨Wc.heap.size, 0, none⟩ = some (.func (.yield l) #[] #[]) := (hb3.cell (p := ⟨Wc.heap.size, 0, none⟩) (block_lt p3)).trans p3
            have HJ3 : Hid (J Q k W3) := (HJO.out Q) k W W3 none HI.out.1 (grown_of_below hb3 none) (fun r e => by cases e)
            have HO3 : Hid (W3.ownsRow Q 5 1 (.slice U xr.length cu) xr.length (bcs xr)) := own_base hown hQ2
            have HB3 := Lib.hid hb3
            have hz3 : Q ≤ W3.heap.size := Nat.le_trans hQ2 hb3.size
            clear hown hbel hb3
            refine HK.out _ _ ?_
            clear HK K
            try simp only [List.getElem_toArray, List.getElem_cons_zero, List.getElem_cons_succ, Act.put, List.setIfInBounds_toArray, List.set_cons_zero, List.set_cons_succ]
            refine wpAnyIn_ready (rs := [10]) (by kernel_rfl) (by simp) ?_
            refine AllReadyIn.cons rfl (fun K hK => ?_) AllReadyIn.nil
            have HK := Lib.hid hK
            clear hK
            try simp only [List.getElem_toArray, List.getElem_cons_zero, List.getElem_cons_succ]
            obtain ⟨fn, tmps, assign, body, hy, hR⟩ := HY.out Q k _ W3 U cu (by omega) hz3 HX.out rfl HJ3.out HO3.out
            dsimp only at hy
            go_simp
            refine hR.mono ?_
            rintro e W4 ⟨hkept, hres⟩
            obtain ⟨bb, rfl, hres2⟩ : ∃ bb, e = .returned (.bool bb) ∧ ((bb = true ∧ J Q (k + 1) W4) ∨ (bb = false ∧ Jx W4)) := by rcases hres with ⟨rfl, h⟩ | ⟨rfl, h⟩; exact ⟨_, rfl, .inl ⟨rfl, h⟩⟩; exact ⟨_, rfl, .inr ⟨rfl, h⟩⟩
            have HK4 : Hid (Kept Wc.heap.size Q W3 W4) := hkept
            have HR4 := Lib.hid hres2
            clear hres hres2 hkept hy hR
            refine HK.out _ _ ?_
            clear HK K
            try simp only [List.getElem_toArray, List.getElem_cons_zero, List.getElem_cons_succ, Act.put, List.setIfInBounds_toArray, List.set_cons_zero, List.set_cons_succ]
            refine wpAnyIn_take (i := 11) (v := ?_) rfl rfl (by kernel_rfl) (by kernel_rfl) (by kernel_rfl) (fun _ _ _ h => h) ⟨Or.inl ⟨by rfl, ?_⟩, fun _ => rfl⟩ ?_
            rotate_left
            · intro w; first | (go_simp; done) | (go_simp; with_reducible rfl)
            try simp only [List.getElem_toArray, List.getElem_cons_zero, List.getElem_cons_succ, Act.put, List.setIfInBounds_toArray, List.set_cons_zero, List.set_cons_succ]
            refine wpAnyIn_take (i := 12) (v := ?_) rfl rfl (by kernel_rfl) (by kernel_rfl) (by kernel_rfl) (fun _ _ _ h => h) ⟨Or.inl ⟨by rfl, ?_⟩, fun _ => rfl⟩ ?_
            rotate_left
            · intro w; first | (go_simp; done) | (go_simp; with_reducible rfl)
            try simp only [List.getElem_toArray, List.getElem_cons_zero, List.getElem_cons_succ, Act.put, List.setIfInBounds_toArray, List.set_cons_zero, List.set_cons_succ]
            refine wpAnyIn_done (by kernel_rfl) ?_ _
            (rcases HR4.out with ⟨rfl, hj⟩ | ⟨rfl, hj⟩ <;> (have HJ4 := Lib.hid hj; clear hj HR4; gi_wp2; first | exact ⟨(Kept.below HB3.out hQ2).trans (HK4.out.mono (by omega) (Nat.le_refl _)), HJ4.out, Nat.le_trans hz3 HK4.out.size, HI.out.2.2.trans ((Kept.below HB3.out (by omega)).trans (HK4.out.mono (Nat.le_refl _) (by omega)))⟩ | exact ⟨(Kept.below HB3.out hQ2).trans (HK4.out.mono (by omega) (Nat.le_refl _)), rfl, HJ4.out⟩))
          · skip
            have HK := Lib.hid hK
            clear hK
            try simp only [List.getElem_toArray, List.getElem_cons_zero, List.getElem_cons_succ]
            go_simp
            refine ⟨trivial, callsIn_wide.2 ((SlBytes.clone C xr.length cc (bcs xr) W.drew HSX.out.drew (bcs_one _) (by omega) HNX.out).mono ?_)⟩
            rintro e W3 ⟨u, rfl, hown, hbel⟩
            obtain ⟨U, cu, rfl, _, _, _, _, _⟩ := Sl.of_own hown
            have hb3 : Below W.heap.size W W3 := (Below.refl _ _).drew.trans hbel
            have p3n : W3.cell? ⟨Wc.heap.size, 0, none⟩ = some (.func (.yield l) #[] #[]) := (hb3.cell (p := ⟨Wc.heap.size, 0, none⟩) (block_lt p3)).trans p3
            have HJ3 : Hid (J Q k W3) := (HJO.out Q) k W W3 none HI.out.1 (grown_of_below hb3 none) (fun r e => by cases e)
            have HO3 : Hid (W3.ownsRow Q 5 1 (.slice U xr.length cu) xr.length (bcs xr)) := own_base hown hQ2
            have HB3 := Lib.hid hb3
            have hz3 : Q ≤ W3.heap.size := Nat.le_trans hQ2 hb3.size
            clear hown hbel hb3
            refine HK.out _ _ ?_
            clear HK K
            try simp only [List.getElem_toArray, List.getElem_cons_zero, List.getElem_cons_succ, Act.put, List.setIfInBounds_toArray, List.set_cons_zero, List.set_cons_succ]
            refine wpAnyIn_ready (rs := [5]) (by kernel_rfl) (by simp) ?_
            refine AllReadyIn.cons rfl (fun K hK => ?_) AllReadyIn.nil
            have HK := Lib.hid hK
            clear hK
            try simp only [List.getElem_toArray, List.getElem_cons_zero, List.getElem_cons_succ]
            go_simp
            refine HK.out _ _ ?_
            clear HK K
            try simp only [List.getElem_toArray, List.getElem_cons_zero, List.getElem_cons_succ, Act.put, List.setIfInBounds_toArray, List.set_cons_zero, List.set_cons_succ]
            refine wpAnyIn_ready (rs := [10]) (by kernel_rfl) (by simp) ?_
            refine AllReadyIn.cons rfl (fun K hK => ?_) AllReadyIn.nil
            have HK := Lib.hid hK
            clear hK
            try simp only [List.getElem_toArray, List.getElem_cons_zero, List.getElem_cons_succ]
            obtain ⟨fn, tmps, assign, body, hy, hR⟩ := HY.out Q k _ W3 U cu (by omega) hz3 HX.out rfl HJ3.out HO3.out
            dsimp only at hy
            go_simp
            refine hR.mono ?_
            rintro e W4 ⟨hkept, hres⟩
            obtain ⟨bb, rfl, hres2⟩ : ∃ bb, e = .returned (.bool bb) ∧ ((bb = true ∧ J Q (k + 1) W4) ∨ (bb = false ∧ Jx W4)) := by rcases hres with ⟨rfl, h⟩ | ⟨rfl, h⟩; exact ⟨_, rfl, .inl ⟨rfl, h⟩⟩; exact ⟨_, rfl, .inr ⟨rfl, h⟩⟩
            have HK4 : Hid (Kept Wc.heap.size Q W3 W4) := hkept
            have HR4 := Lib.hid hres2
            clear hres hres2 hkept hy hR
            refine HK.out _ _ ?_
            clear HK K
            try simp only [List.getElem_toArray, List.getElem_cons_zero, List.getElem_cons_succ, Act.put, List.setIfInBounds_toArray, List.set_cons_zero, List.set_cons_succ]
            refine wpAnyIn_take (i := 11) (v := ?_) rfl rfl (by kernel_rfl) (by kernel_rfl) (by kernel_rfl) (fun _ _ _ h => h) ⟨Or.inl ⟨by rfl, ?_⟩, fun _ => rfl⟩ ?_
            rotate_left
            · intro w; first | (go_simp; done) | (go_simp; with_reducible rfl)
            try simp only [List.getElem_toArray, List.getElem_cons_zero, List.getElem_cons_succ, Act.put, List.setIfInBounds_toArray, List.set_cons_zero, List.set_cons_succ]
            refine wpAnyIn_take (i := 12) (v := ?_) rfl rfl (by kernel_rfl) (by kernel_rfl) (by kernel_rfl) (fun _ _ _ h => h) ⟨Or.inl ⟨by rfl, ?_⟩, fun _ => rfl⟩ ?_
            rotate_left
            · intro w; first | (go_simp; done) | (go_simp; with_reducible rfl)
            try simp only [List.getElem_toArray, List.getElem_cons_zero, List.getElem_cons_succ, Act.put, List.setIfInBounds_toArray, List.set_cons_zero, List.set_cons_succ]
            refine wpAnyIn_done (by kernel_rfl) ?_ _
            (rcases HR4.out with ⟨rfl, hj⟩ | ⟨rfl, hj⟩ <;> (have HJ4 := Lib.hid hj; clear hj HR4; gi_wp2; first | exact ⟨(Kept.below HB3.out hQ2).trans (HK4.out.mono (by omega) (Nat.le_refl _)), HJ4.out, Nat.le_trans hz3 HK4.out.size, HI.out.2.2.trans ((Kept.below HB3.out (by omega)).trans (HK4.out.mono (Nat.le_refl _) (by omega)))⟩ | exact ⟨(Kept.below HB3.out hQ2).trans (HK4.out.mono (by omega) (Nat.le_refl _)), rfl, HJ4.out⟩))
      · skip
        have HK := Lib.hid hK
        clear hK
        try simp only [List.getElem_toArray, List.getElem_cons_zero, List.getElem_cons_succ]
        go_simp
        refine HK.out _ _ ?_
        clear HK K
        try simp only [List.getElem_toArray, List.getElem_cons_zero, List.getElem_cons_succ, Act.put, List.setIfInBounds_toArray, List.set_cons_zero, List.set_cons_succ]
        refine wpAnyIn_ready (rs := [1]) (by kernel_rfl) (by simp) ?_
        refine AllReadyIn.cons rfl (fun K hK => ?_) AllReadyIn.nil
        have HK := Lib.hid hK
        clear hK
        try simp only [List.getElem_toArray, List.getElem_cons_zero, List.getElem_cons_succ]
        go_simp
        refine HK.out _ _ ?_
        clear HK K
        try simp only [List.getElem_toArray, List.getElem_cons_zero, List.getElem_cons_succ, Act.put, List.setIfInBounds_toArray, List.set_cons_zero, List.set_cons_succ]
        refine wpAnyIn_take (i := 3) (v := ?_) rfl rfl (by kernel_rfl) (by kernel_rfl) (by kernel_rfl) (fun _ _ _ h => h) ⟨Or.inl ⟨by rfl, ?_⟩, fun _ => rfl⟩ ?_
        rotate_left
        · intro w; first | (go_simp; done) | (go_simp; with_reducible rfl)
        try simp only [List.getElem_toArray, List.getElem_cons_zero, List.getElem_cons_succ, Act.put, List.setIfInBounds_toArray, List.set_cons_zero, List.set_cons_succ]
        refine wpAnyIn_take (i := 4) (v := ?_) rfl rfl (by kernel_rfl) (by kernel_rfl) (by kernel_rfl) (fun _ _ _ h => h) ⟨Or.inl ⟨by rfl, ?_⟩, fun _ => rfl⟩ ?_
        rotate_left
        · intro w; first | (go_simp; done) | (go_simp; with_reducible rfl)
        try simp only [List.getElem_toArray, List.getElem_cons_zero, List.getElem_cons_succ, Act.put, List.setIfInBounds_toArray, List.set_cons_zero, List.set_cons_succ]
        refine wpAnyIn_take (i := 6) (v := ?_) rfl rfl (by kernel_rfl) (by kernel_rfl) (by kernel_rfl) (fun _ _ _ h => h) ⟨Or.inl ⟨by rfl, ?_⟩, fun _ => rfl⟩ ?_
        rotate_left
        · intro w; first | (go_simp; done) | (go_simp; with_reducible rfl)
        try simp only [List.getElem_toArray, List.getElem_cons_zero, List.getElem_cons_succ, Act.put, List.setIfInBounds_toArray, List.set_cons_zero, List.set_cons_succ]
        refine wpAnyIn_take (i := 7) (v := ?_) rfl rfl (by kernel_rfl) (by kernel_rfl) (by kernel_rfl) (fun _ _ _ h => h) ⟨Or.inl ⟨by rfl, ?_⟩, fun _ => rfl⟩ ?_
        rotate_left
        · intro w; first | (go_simp; done) | (go_simp; with_reducible rfl)
        try simp only [List.getElem_toArray, List.getElem_cons_zero, List.getElem_cons_succ, Act.put, List.setIfInBounds_toArray, List.set_cons_zero, List.set_cons_succ]
        refine wpAnyIn_ready (rs := [5, 8]) (by kernel_rfl) (by simp) ?_
        refine AllReadyIn.cons rfl (fun K hK => ?_) (AllReadyIn.cons rfl (fun K hK => ?_) AllReadyIn.nil)
        · skip
          have HK := Lib.hid hK
          clear hK
          try simp only [List.getElem_toArray, List.getElem_cons_zero, List.getElem_cons_succ]
          go_simp
          refine HK.out _ _ ?_
          clear HK K
          try simp only [List.getElem_toArray, List.getElem_cons_zero, List.getElem_cons_succ, Act.put, List.setIfInBounds_toArray, List.set_cons_zero, List.set_cons_succ]
          refine wpAnyIn_ready (rs := [8]) (by kernel_rfl) (by simp) ?_
          refine AllReadyIn.cons rfl (fun K hK => ?_) AllReadyIn.nil
          have HK := Lib.hid hK
          clear hK
          try simp only [List.getElem_toArray, List.getElem_cons_zero, List.getElem_cons_succ]
          go_simp
          refine HK.out _ _ ?_
          clear HK K
          try simp only [List.getElem_toArray, List.getElem_cons_zero, List.getElem_cons_succ, Act.put, List.setIfInBounds_toArray, List.set_cons_zero, List.set_cons_succ]
          refine wpAnyIn_ready (rs := [9]) (by kernel_rfl) (by simp) ?_
          refine AllReadyIn.cons rfl (fun K hK => ?_) AllReadyIn.nil
          have HK := Lib.hid hK
          clear hK
          try simp only [List.getElem_toArray, List.getElem_cons_zero, List.getElem_cons_succ]
          go_simp
          refine ⟨trivial, callsIn_wide.2 ((SlBytes.clone C xr.length cc (bcs xr) W.drew HSX.out.drew (bcs_one _) (by omega) HNX.out).mono ?_)⟩
          rintro e W3 ⟨u, rfl, hown, hbel⟩
          obtain ⟨U, cu, rfl, _, _, _, _, _⟩ := Sl.of_own hown
          have hb3 : Below W.heap.size W W3 := (Below.refl _ _).drew.trans hbel
          have p3n : W3.cell? ⟨Wc.heap.size, 0, none⟩ = some (.func (.yield l) #[] #[]) := (hb3.cell (p := ⟨Wc.heap.size, 0, none⟩) (block_lt p3)).trans p3
          have HJ3 : Hid (J Q k W3) := (HJO.out Q) k W W3 none HI.out.1 (grown_of_below hb3 none) (fun r e => by cases e)
          have HO3 : Hid (W3.ownsRow Q 5 1 (.slice U xr.length cu) xr.length (bcs xr)) := own_base hown hQ2
          have HB3 := Lib.hid hb3
          have hz3 : Q ≤ W3.heap.size := Nat.le_trans hQ2 hb3.size
          clear hown hbel hb3
          refine HK.out _ _ ?_
          clear HK K
          try simp only [List.getElem_toArray, List.getElem_cons_zero, List.getElem_cons_succ, Act.put, List.setIfInBounds_toArray, List.set_cons_zero, List.set_cons_succ]
          refine wpAnyIn_ready (rs := [10]) (by kernel_rfl) (by simp) ?_
          refine AllReadyIn.cons rfl (fun K hK => ?_) AllReadyIn.nil
          have HK := Lib.hid hK
          clear hK
          try simp only [List.getElem_toArray, List.getElem_cons_zero, List.getElem_cons_succ]
          obtain ⟨fn, tmps, assign, body, hy, hR⟩ := HY.out Q k _ W3 U cu (by omega) hz3 HX.out rfl HJ3.out HO3.out
          dsimp only at hy
          go_simp
          refine hR.mono ?_
          rintro e W4 ⟨hkept, hres⟩
          obtain ⟨bb, rfl, hres2⟩ : ∃ bb, e = .returned (.bool bb) ∧ ((bb = true ∧ J Q (k + 1) W4) ∨ (bb = false ∧ Jx W4)) := by rcases hres with ⟨rfl, h⟩ | ⟨rfl, h⟩; exact ⟨_, rfl, .inl ⟨rfl, h⟩⟩; exact ⟨_, rfl, .inr ⟨rfl, h⟩⟩
          have HK4 : Hid (Kept Wc.heap.size Q W3 W4) := hkept
          have HR4 := Lib.hid hres2
          clear hres hres2 hkept hy hR
          refine HK.out _ _ ?_
          clear HK K
          try simp only [List.getElem_toArray, List.getElem_cons_zero, List.getElem_cons_succ, Act.put, List.setIfInBounds_toArray, List.set_cons_zero, List.set_cons_succ]
          refine wpAnyIn_take (i := 11) (v := ?_) rfl rfl (by kernel_rfl) (by kernel_rfl) (by kernel_rfl) (fun _ _ _ h => h) ⟨Or.inl ⟨by rfl, ?_⟩, fun _ => rfl⟩ ?_
          rotate_left
          · intro w; first | (go_simp; done) | (go_simp; with_reducible rfl)
          try simp only [List.getElem_toArray, List.getElem_cons_zero, List.getElem_cons_succ, Act.put, List.setIfInBounds_toArray, List.set_cons_zero, List.set_cons_succ]
          refine wpAnyIn_take (i := 12) (v := ?_) rfl rfl (by kernel_rfl) (by kernel_rfl) (by kernel_rfl) (fun _ _ _ h => h) ⟨Or.inl ⟨by rfl, ?_⟩, fun _ => rfl⟩ ?_
          rotate_left
          · intro w; first | (go_simp; done) | (go_simp; with_reducible rfl)
          try simp only [List.getElem_toArray, List.getElem_cons_zero, List.getElem_cons_succ, Act.put, List.setIfInBounds_toArray, List.set_cons_zero, List.set_cons_succ]
          refine wpAnyIn_done (by kernel_rfl) ?_ _
          (rcases HR4.out with ⟨rfl, hj⟩ | ⟨rfl, hj⟩ <;> (have HJ4 := Lib.hid hj; clear hj HR4; gi_wp2; first | exact ⟨(Kept.below HB3.out hQ2).trans (HK4.out.mono (by omega) (Nat.le_refl _)), HJ4.out, Nat.le_trans hz3 HK4.out.size, HI.out.2.2.trans ((Kept.below HB3.out (by omega)).trans (HK4.out.mono (Nat.le_refl _) (by omega)))⟩ | exact ⟨(Kept.below HB3.out hQ2).trans (HK4.out.mono (by omega) (Nat.le_refl _)), rfl, HJ4.out⟩))
        · skip
          have HK := Lib.hid hK
          clear hK
          try simp only [List.getElem_toArray, List.getElem_cons_zero, List.getElem_cons_succ]
          go_simp
          refine HK.out _ _ ?_
          clear HK K
          try simp only [List.getElem_toArray, List.getElem_cons_zero, List.getElem_cons_succ, Act.put, List.setIfInBounds_toArray, List.set_cons_zero, List.set_cons_succ]
          refine wpAnyIn_ready (rs := [5, 9]) (by kernel_rfl) (by simp) ?_
          refine AllReadyIn.cons rfl (fun K hK => ?_) (AllReadyIn.cons rfl (fun K hK => ?_) AllReadyIn.nil)
          · skip
            have HK := Lib.hid hK
            clear hK
            try simp only [List.getElem_toArray, List.getElem_cons_zero, List.getElem_cons_succ]
            go_simp
            refine HK.out _ _ ?_
            clear HK K
            try simp only [List.getElem_toArray, List.getElem_cons_zero, List.getElem_cons_succ, Act.put, List.setIfInBounds_toArray, List.set_cons_zero, List.set_cons_succ]
            refine wpAnyIn_ready (rs := [9]) (by kernel_rfl) (by simp) ?_
            refine AllReadyIn.cons rfl (fun K hK => ?_) AllReadyIn.nil
            have HK := Lib.hid hK
            clear hK
            try simp only [List.getElem_toArray, List.getElem_cons_zero, List.getElem_cons_succ]
            go_simp
            refine ⟨trivial, callsIn_wide.2 ((SlBytes.clone C xr.length cc (bcs xr) W.drew HSX.out.drew (bcs_one _) (by omega) HNX.out).mono ?_)⟩
            rintro e W3 ⟨u, rfl, hown, hbel⟩
            obtain ⟨U, cu, rfl, _, _, _, _, _⟩ := Sl.of_own hown
            have hb3 : Below W.heap.size W W3 := (Below.refl _ _).drew.trans hbel
            have p3n : W3.cell? ⟨Wc.heap.size, 0, none⟩ = some (.func (.yield l) #[] #[]) := (hb3.cell (p := ⟨Wc.heap.size, 0, none⟩) (block_lt p3)).trans p3
            have HJ3 : Hid (J Q k W3) := (HJO.out Q) k W W3 none HI.out.1 (grown_of_below hb3 none) (fun r e => by cases e)
            have HO3 : Hid (W3.ownsRow Q 5 1 (.slice U xr.length cu) xr.length (bcs xr)) := own_base hown hQ2
            have HB3 := Lib.hid hb3
            have hz3 : Q ≤ W3.heap.size := Nat.le_trans hQ2 hb3.size
            clear hown hbel hb3
            refine HK.out _ _ ?_
            clear HK K
            try simp only [List.getElem_toArray, List.getElem_cons_zero, List.getElem_cons_succ, Act.put, List.setIfInBounds_toArray, List.set_cons_zero, List.set_cons_succ]
            refine wpAnyIn_ready (rs := [10]) (by kernel_rfl) (by simp) ?_
            refine AllReadyIn.cons rfl (fun K hK => ?_) AllReadyIn.nil
            have HK := Lib.hid hK
            clear hK
            try simp only [List.getElem_toArray, List.getElem_cons_zero, List.getElem_cons_succ]
            obtain ⟨fn, tmps, assign, body, hy, hR⟩ := HY.out Q k _ W3 U cu (by omega) hz3 HX.out rfl HJ3.out HO3.out
            dsimp only at hy
            go_simp
            refine hR.mono ?_
            rintro e W4 ⟨hkept, hres⟩
            obtain ⟨bb, rfl, hres2⟩ : ∃ bb, e = .returned (.bool bb) ∧ ((bb = true ∧ J Q (k + 1) W4) ∨ (bb = false ∧ Jx W4)) := by rcases hres with ⟨rfl, h⟩ | ⟨rfl, h⟩; exact ⟨_, rfl, .inl ⟨rfl, h⟩⟩; exact ⟨_, rfl, .inr ⟨rfl, h⟩⟩
            have HK4 : Hid (Kept Wc.heap.size Q W3 W4) := hkept
            have HR4 := Lib.hid hres2
            clear hres hres2 hkept hy hR
            refine HK.out _ _ ?_
            clear HK K
            try simp only [List.getElem_toArray, List.getElem_cons_zero, List.getElem_cons_succ, Act.put, List.setIfInBounds_toArray, List.set_cons_zero, List.set_cons_succ]
            refine wpAnyIn_take (i := 11) (v := ?_) rfl rfl (by kernel_rfl) (by kernel_rfl) (by kernel_rfl) (fun _ _ _ h => h) ⟨Or.inl ⟨by rfl, ?_⟩, fun _ => rfl⟩ ?_
            rotate_left
            · intro w; first | (go_simp; done) | (go_simp; with_reducible rfl)
            try simp only [List.getElem_toArray, List.getElem_cons_zero, List.getElem_cons_succ, Act.put, List.setIfInBounds_toArray, List.set_cons_zero, List.set_cons_succ]
            refine wpAnyIn_take (i := 12) (v := ?_) rfl rfl (by kernel_rfl) (by kernel_rfl) (by kernel_rfl) (fun _ _ _ h => h) ⟨Or.inl ⟨by rfl, ?_⟩, fun _ => rfl⟩ ?_
            rotate_left
            · intro w; first | (go_simp; done) | (go_simp; with_reducible rfl)
            try simp only [List.getElem_toArray, List.getElem_cons_zero, List.getElem_cons_succ, Act.put, List.setIfInBounds_toArray, List.set_cons_zero, List.set_cons_succ]
            refine wpAnyIn_done (by kernel_rfl) ?_ _
            (rcases HR4.out with ⟨rfl, hj⟩ | ⟨rfl, hj⟩ <;> (have HJ4 := Lib.hid hj; clear hj HR4; gi_wp2; first | exact ⟨(Kept.below HB3.out hQ2).trans (HK4.out.mono (by omega) (Nat.le_refl _)), HJ4.out, Nat.le_trans hz3 HK4.out.size, HI.out.2.2.trans ((Kept.below HB3.out (by omega)).trans (HK4.out.mono (Nat.le_refl _) (by omega)))⟩ | exact ⟨(Kept.below HB3.out hQ2).trans (HK4.out.mono (by omega) (Nat.le_refl _)), rfl, HJ4.out⟩))
          · skip
            have HK := Lib.hid hK
            clear hK
            try simp only [List.getElem_toArray, List.getElem_cons_zero, List.getElem_cons_succ]
            go_simp
            refine ⟨trivial, callsIn_wide.2 ((SlBytes.clone C xr.length cc (bcs xr) W.drew HSX.out.drew (bcs_one _) (by omega) HNX.out).mono ?_)⟩
            rintro e W3 ⟨u, rfl, hown, hbel⟩
            obtain ⟨U, cu, rfl, _, _, _, _, _⟩ := Sl.of_own hown
            have hb3 : Below W.heap.size W W3 := (Below.refl _ _).drew.trans hbel
            have p3n : W3.cell? ⟨Wc.heap.size, 0, none⟩ = some (.func (.yield l) #[] #[]) := (hb3.cell (p := ⟨Wc.heap.size, 0, none⟩) (block_lt p3)).trans p3
            have HJ3 : Hid (J Q k W3) := (HJO.out Q) k W W3 none HI.out.1 (grown_of_below hb3 none) (fun r e => by cases e)
            have HO3 : Hid (W3.ownsRow Q 5 1 (.slice U xr.length cu) xr.length (bcs xr)) := own_base hown hQ2
            have HB3 := Lib.hid hb3
            have hz3 : Q ≤ W3.heap.size := Nat.le_trans hQ2 hb3.size
            clear hown hbel hb3
            refine HK.out _ _ ?_
            clear HK K
            try simp only [List.getElem_toArray, List.getElem_cons_zero, List.getElem_cons_succ, Act.put, List.setIfInBounds_toArray, List.set_cons_zero, List.set_cons_succ]
            refine wpAnyIn_ready (rs := [5]) (by kernel_rfl) (by simp) ?_
            refine AllReadyIn.cons rfl (fun K hK => ?_) AllReadyIn.nil
            have HK := Lib.hid hK
            clear hK
            try simp only [List.getElem_toArray, List.getElem_cons_zero, List.getElem_cons_succ]
            go_simp
            refine HK.out _ _ ?_
            clear HK K
            try simp only [List.getElem_toArray, List.getElem_cons_zero, List.getElem_cons_succ, Act.put, List.setIfInBounds_toArray, List.set_cons_zero, List.set_cons_succ]
            refine wpAnyIn_ready (rs := [10]) (by kernel_rfl) (by simp) ?_
            refine AllReadyIn.cons rfl (fun K hK => ?_) AllReadyIn.nil
            have HK := Lib.hid hK
            clear hK
            try simp only [List.getElem_toArray, List.getElem_cons_zero, List.getElem_cons_succ]
            obtain ⟨fn, tmps, assign, body, hy, hR⟩ := HY.out Q k _ W3 U cu (by omega) hz3 HX.out rfl HJ3.out HO3.out
            dsimp only at hy
            go_simp
            refine hR.mono ?_
            rintro e W4 ⟨hkept, hres⟩
            obtain ⟨bb, rfl, hres2⟩ : ∃ bb, e = .returned (.bool bb) ∧ ((bb = true ∧ J Q (k + 1) W4) ∨ (bb = false ∧ Jx W4)) := by rcases hres with ⟨rfl, h⟩ | ⟨rfl, h⟩; exact ⟨_, rfl, .inl ⟨rfl, h⟩⟩; exact ⟨_, rfl, .inr ⟨rfl, h⟩⟩
            have HK4 : Hid (Kept Wc.heap.size Q W3 W4) := hkept
            have HR4 := Lib.hid hres2
            clear hres hres2 hkept hy hR
            refine HK.out _ _ ?_
            clear HK K
            try simp only [List.getElem_toArray, List.getElem_cons_zero, List.getElem_cons_succ, Act.put, List.setIfInBounds_toArray, List.set_cons_zero, List.set_cons_succ]
            refine wpAnyIn_take (i := 11) (v := ?_) rfl rfl (by kernel_rfl) (by kernel_rfl) (by kernel_rfl) (fun _ _ _ h => h) ⟨Or.inl ⟨by rfl, ?_⟩, fun _ => rfl⟩ ?_
            rotate_left
            · intro w; first | (go_simp; done) | (go_simp; with_reducible rfl)
            try simp only [List.getElem_toArray, List.getElem_cons_zero, List.getElem_cons_succ, Act.put, List.setIfInBounds_toArray, List.set_cons_zero, List.set_cons_succ]
            refine wpAnyIn_take (i := 12) (v := ?_) rfl rfl (by kernel_rfl) (by kernel_rfl) (by kernel_rfl) (fun _ _ _ h => h) ⟨Or.inl ⟨by rfl, ?_⟩, fun _ => rfl⟩ ?_
            rotate_left
            · intro w; first | (go_simp; done) | (go_simp; with_reducible rfl)
            try simp only [List.getElem_toArray, List.getElem_cons_zero, List.getElem_cons_succ, Act.put, List.setIfInBounds_toArray, List.set_cons_zero, List.set_cons_succ]
            refine wpAnyIn_done (by kernel_rfl) ?_ _
            (rcases HR4.out with ⟨rfl, hj⟩ | ⟨rfl, hj⟩ <;> (have HJ4 := Lib.hid hj; clear hj HR4; gi_wp2; first | exact ⟨(Kept.below HB3.out hQ2).trans (HK4.out.mono (by omega) (Nat.le_refl _)), HJ4.out, Nat.le_trans hz3 HK4.out.size, HI.out.2.2.trans ((Kept.below HB3.out (by omega)).trans (HK4.out.mono (Nat.le_refl _) (by omega)))⟩ | exact ⟨(Kept.below HB3.out hQ2).trans (HK4.out.mono (by omega) (Nat.le_refl _)), rfl, HJ4.out⟩))
    · have hd' : (xd == dst) = false := beq_eq_false_iff_ne.2 hd
      have HD : Hid (xd ≠ dst) := hd
      clear hd
      gi_wp2
      refine quiet_round (by kernel_rfl) (by kernel_rfl) (by kernel_rfl) ?_
      repeat (quiet_step (fail))
      refine wpQuiet_nil ?_
      intro _ hw'
      obtain ⟨nq, hw''⟩ := hw'
      subst hw''
      gi_wp2
      have hg := grown_drewN (World.grownBy.refl W none) nq
      exact ⟨⟨Nat.le_refl _, fun _ _ _ => rfl⟩, HSK.out Q k _ _ HX.out HD.out ((HJO.out Q) k W _ none HI.out.1 hg (fun r e => by cases e)), HI.out.2.1, ⟨HI.out.2.2.size, HI.out.2.2.same⟩⟩

end Go.Proofs.Ytogiedephnappaa.Net
