/-
  Package batch: a book in the heap; why a route can't be there; why a command can't be done. No condition but that words are words.
-/
import Derived.Test.YtcnecjjgnnkjkaaBatchM
import Derived.Test.YtcnecjjgnnkjkaaHops
namespace Go.Proofs.Ytcnecjjgnnkjkaa
open Go.RowKit
set_option linter.unusedVariables false
set_option linter.unusedSimpArgs false
set_option maxRecDepth 100000

structure BookQ (w : World) (b g hg hq : Nat) (FT F : Nat → Prop) (m : Lim) (R : List Rt) : Prop where
  top : Blk w b 80 [.int .i64 (m.wd : Int), .int .i64 (m.rt : Int), .int .i64 (m.mh : Int), .pointer (some ⟨g, 0, none⟩), .pointer (some ⟨hg, 0, none⟩)]
  tri : TrR w g FT R
  hop : HopsAt w hg hq m.mh (hopsL R)
  inv : Inv m R
  lim : m.wd ≤ 128 ∧ m.rt ≤ 300 ∧ m.mh ≤ 60
  ff : ∀ z, FT z → z < w.heap.size ∧ F z ∧ z ≠ b ∧ z ≠ hg ∧ z ≠ hq
  fb : F b ∧ F hg ∧ F hq
  ne : b ≠ hg ∧ b ≠ hq
/-- The book at block b has the routes R; its blocks are in F. -/
def BookAt (w : World) (b : Nat) (F : Nat → Prop) (m : Lim) (R : List Rt) : Prop := ∃ g hg hq FT, BookQ w b g hg hq FT F m R
theorem BookQ.chg {w w' : World} {b g hg hq : Nat} {FT F S : Nat → Prop} {m : Lim} {R : List Rt} (h : BookQ w b g hg hq FT F m R) (k : Chg S w w') (hS : ∀ z, z < w.heap.size → F z → ¬ S z) : BookQ w' b g hg hq FT F m R :=
  ⟨h.top.chg k (hS b h.top.lt h.fb.1), h.tri.chg k (fun z hz => hS z (h.ff z hz).1 (h.ff z hz).2.1), h.hop.chg k (hS hg h.hop.lt.1 h.fb.2.1) (hS hq h.hop.lt.2 h.fb.2.2), h.inv, h.lim, fun z hz => ⟨Nat.lt_of_lt_of_le (h.ff z hz).1 k.size, (h.ff z hz).2⟩, h.fb, h.ne⟩
theorem BookQ.below {w w' : World} {b g hg hq : Nat} {FT F : Nat → Prop} {m : Lim} {R : List Rt} (h : BookQ w b g hg hq FT F m R) (k : Below w.heap.size w w') : BookQ w' b g hg hq FT F m R := h.chg (Chg.of_below k fun _ => False) fun _ _ _ h => h
theorem BookAt.chg {w w' : World} {b : Nat} {F S : Nat → Prop} {m : Lim} {R : List Rt} (h : BookAt w b F m R) (k : Chg S w w') (hS : ∀ z, z < w.heap.size → F z → ¬ S z) : BookAt w' b F m R := let ⟨g, hg, hq, FT, h⟩ := h; ⟨g, hg, hq, FT, h.chg k hS⟩
theorem BookAt.below {w w' : World} {b : Nat} {F : Nat → Prop} {m : Lim} {R : List Rt} (h : BookAt w b F m R) (k : Below w.heap.size w w') : BookAt w' b F m R := let ⟨g, hg, hq, FT, h⟩ := h; ⟨g, hg, hq, FT, h.below k⟩
theorem BookAt.mono {w : World} {b : Nat} {F G : Nat → Prop} {m : Lim} {R : List Rt} (h : BookAt w b F m R) (hs : ∀ z, z < w.heap.size → F z → G z) : BookAt w b G m R := by
  obtain ⟨g, hg, hq, FT, h⟩ := h
  exact ⟨g, hg, hq, FT, h.top, h.tri, h.hop, h.inv, h.lim, fun z hz => ⟨(h.ff z hz).1, hs z (h.ff z hz).1 (h.ff z hz).2.1, (h.ff z hz).2.2⟩, ⟨hs b h.top.lt h.fb.1, hs hg h.hop.lt.1 h.fb.2.1, hs hq h.hop.lt.2 h.fb.2.2⟩, h.ne⟩
theorem BookAt.inv {w : World} {b : Nat} {F : Nat → Prop} {m : Lim} {R : List Rt} (h : BookAt w b F m R) : Inv m R := let ⟨_, _, _, _, h⟩ := h; h.inv
theorem BookAt.lim {w : World} {b : Nat} {F : Nat → Prop} {m : Lim} {R : List Rt} (h : BookAt w b F m R) : m.wd ≤ 128 ∧ m.rt ≤ 300 ∧ m.mh ≤ 60 := let ⟨_, _, _, _, h⟩ := h; h.lim
theorem bcb {w w' : World} (h : Below w.heap.size w w') {a : Addr} {v : Value} (hc : w.cell? a = some v) : w'.cell? a = some v := (h.cell (World.block_lt_of_cell? w a hc)).trans hc
/-- What is left of the uses of a hop, and of the hops, without a prefix. -/
theorem addE_none {m : Lim} {R : List Rt} (hs : Srt R) {p : Pf} (h : getV (mapOf R) p = none) (hop : Int) : addE m R p hop = if m.rt ≤ R.length then 5 else if (hopsL R).count hop = 0 ∧ m.mh ≤ dist (hopsL R) then 6 else 0 := by
  unfold addE
  have e : (hopsL R).count hop = 0 ↔ hop ∉ hopsL R := List.count_eq_zero
  rw [without_none hs h]
  simp only [h, true_and, e]
theorem add_some {m : Lim} {R : List Rt} (hs : Srt R) {p : Pf} {u : Int} (h : getV (mapOf R) p = some u) (hop : Int) :
    addE m R p hop = (if (hopsL (withoutL R p)).count hop = 0 ∧ m.mh ≤ dist (hopsL (withoutL R p)) then 6 else 0) ∧ (hopsL R).count hop = (hopsL (withoutL R p)).count hop + (if u = hop then 1 else 0) ∧
    (hopsL R).count u = (hopsL (withoutL R p)).count u + 1 ∧ dist (hopsL R) = dist (hopsL (withoutL R p)) + (if (hopsL R).count u = 1 then 1 else 0) := by
  have hp := hops_without hs h
  have hc := hp.count_eq u
  rw [List.count_cons_self] at hc
  refine ⟨?_, ?_, hc, ?_⟩
  · unfold addE
    have e : (hopsL (withoutL R p)).count hop = 0 ↔ hop ∉ hopsL (withoutL R p) := List.count_eq_zero
    rw [if_neg (by rw [h]; simp)]
    simp only [e]
  · rw [hp.count_eq, List.count_cons]
    by_cases e : u = hop
    · simp [e]
    · simp [e]
  · rw [dist_perm hp, dist_cons, hc]
    by_cases e : u ∈ hopsL (withoutL R p)
    · have := count_pos_mem.2 e
      rw [if_pos e, if_neg (by omega)]; rfl
    · have := List.count_eq_zero.2 e
      rw [if_neg e, if_pos (by omega)]
set_option maxHeartbeats 4000000 in
theorem book_add {w : World} {b : Nat} {F : Nat → Prop} {m : Lim} {R : List Rt} (H : BookAt w b F m R) (p : Pf) (hp : p.1.ok) (hop : Int) (wh : (Lit.int .i64 hop).wf = true) :
    Calls Try.prog 35 #[.pointer (some ⟨b, 0, none⟩), .agg #[.int .u64 (p.1.1 : Int), .int .u64 (p.1.2 : Int), .int .i64 p.2], .int .i64 hop] w fun e w' => e = .returned (.int .i64 (addE m R p hop)) ∧ Below w.heap.size w w' := by
  obtain ⟨g, hg, hq, FT, H⟩ := H
  have hb0 := (Below.refl w.heap.size w).alloc (Nat.le_refl _) (.cells #[.int .u64 (p.1.1 : Int), .int .u64 (p.1.2 : Int), .int .i64 p.2] 51)
  have H1 := H.below hb0
  have hpb := Blk.new_at w #[.int .u64 (p.1.1 : Int), .int .u64 (p.1.2 : Int), .int .i64 p.2] 51 w.heap.size rfl
  obtain ⟨v, hv⟩ : ∃ v, getV (mapOf R) p = v := ⟨_, rfl⟩
  have hl := H.inv.len
  have hlim := H.lim
  have hc1 : (hopsL R).count hop ≤ (hopsL R).length := List.count_le_length
  have hLl : (hopsL R).length = R.length := by unfold hopsL; simp
  have hdl := dist_le (hopsL R)
  have hN := addE_none (m := m) H.inv.srt (p := p) (hop := hop)
  have hS0 := fun u => add_some (m := m) H.inv.srt (p := p) (u := u) (hop := hop)
  have huw := fun u (h : getV (mapOf R) p = some u) => (H.inv.hop _ ((H.inv.srt.get p u).1 h)).2
  have HG0 := hid H1
  obtain ⟨w0, hw0⟩ : ∃ w0, w.alloc (.cells #[.int .u64 (p.1.1 : Int), .int .u64 (p.1.2 : Int), .int .i64 p.2] 51) = w0 := ⟨_, rfl⟩
  have cG := hid (fun (w' : World) (h : Below w0.heap.size w0 w') => trr_get ((hw0 ▸ HG0.out : BookQ w0 b g hg hq FT F m R).below h).tri p hp)
  have cL := hid (fun (w' : World) (h : Below w0.heap.size w0 w') => trr_len ((hw0 ▸ HG0.out : BookQ w0 b g hg hq FT F m R).below h).tri)
  have cU := hid (fun (w' : World) (h : Below w0.heap.size w0 w') (x : Int) (wx : (Lit.int .i64 x).wf = true) => hops_uses ((hw0 ▸ HG0.out : BookQ w0 b g hg hq FT F m R).below h).hop x wx)
  have cC := hid (fun (w' : World) (h : Below w0.heap.size w0 w') => hops_count ((hw0 ▸ HG0.out : BookQ w0 b g hg hq FT F m R).below h).hop)
  unfold GetPost at cG
  rw [hv] at cG hN hS0 huw
  have y1 := H1.top.cellv (i := 1) rfl
  have y2 := H1.top.cellv (i := 2) rfl
  have y3 := H1.top.cellv (i := 3) rfl
  have y4 := H1.top.cellv (i := 4) rfl
  have x0 := hpb.cellv (i := 0) rfl
  have x1 := hpb.cellv (i := 1) rfl
  have x2 := hpb.cellv (i := 2) rfl
  have HB := hid hb0
  have WH := hid wh
  have HN := hid hN
  have HS0 := hid hS0
  have HUW := hid huw
  generalize hopsL (withoutL R p) = L' at *
  generalize hopsL R = L at *
  generalize addE m R p hop = res at *
  generalize R.length = n at *
  clear H H1 hb0 hpb hv wh hN hS0 HG0 huw hp
  obtain ⟨⟨p1, p2⟩, p3⟩ := p
  simp only at *
  subst hw0
  go_enter Try.func35, Try.ntmps35
  go_wp2_with fail
  generalize w.alloc (.cells #[.int .u64 (p1 : Int), .int .u64 (p2 : Int), .int .i64 p3] 51) = w0 at *
  have hS : (w0.drew.cell? ⟨b, 1, none⟩ = some (.int .i64 (m.rt : Int)) ∧ w0.drew.cell? ⟨b, 2, none⟩ = some (.int .i64 (m.mh : Int)) ∧ w0.drew.cell? ⟨b, 3, none⟩ = some (.pointer (some ⟨g, 0, none⟩)) ∧ w0.drew.cell? ⟨b, 4, none⟩ = some (.pointer (some ⟨hg, 0, none⟩))) ∧ (w0.drew.cell? ⟨w.heap.size, 0, none⟩ = some (.int .u64 (p1 : Int)) ∧ w0.drew.cell? ⟨w.heap.size, 1, none⟩ = some (.int .u64 (p2 : Int)) ∧ w0.drew.cell? ⟨w.heap.size, 2, none⟩ = some (.int .i64 p3)) := ⟨⟨y1, y2, y3, y4⟩, x0, x1, x2⟩
  refine wp_region_ord (fun w' => (w'.cell? ⟨b, 1, none⟩ = some (.int .i64 (m.rt : Int)) ∧ w'.cell? ⟨b, 2, none⟩ = some (.int .i64 (m.mh : Int)) ∧ w'.cell? ⟨b, 3, none⟩ = some (.pointer (some ⟨g, 0, none⟩)) ∧ w'.cell? ⟨b, 4, none⟩ = some (.pointer (some ⟨hg, 0, none⟩))) ∧ (w'.cell? ⟨w.heap.size, 0, none⟩ = some (.int .u64 (p1 : Int)) ∧ w'.cell? ⟨w.heap.size, 1, none⟩ = some (.int .u64 (p2 : Int)) ∧ w'.cell? ⟨w.heap.size, 2, none⟩ = some (.int .i64 p3))) (by kernel_rfl) hS ?_
  refine ord_still 0 rfl (v := ?_) (by kernel_rfl) (fun _ _ _ h => h) rfl (fun W hW => ?_) hS ?_
  rotate_left
  · try dsimp only at hW
    go_simp
    try with_reducible rfl
  simp only [Act.put, List.setIfInBounds_toArray, List.set_cons_zero, List.set_cons_succ]
  refine ord_still 1 rfl (v := ?_) (by kernel_rfl) (fun _ _ _ h => h) rfl (fun W hW => ?_) hS ?_
  rotate_left
  · try dsimp only at hW
    go_simp
    try with_reducible rfl
  simp only [Act.put, List.setIfInBounds_toArray, List.set_cons_zero, List.set_cons_succ]
  refine ord_still 2 rfl (v := ?_) (by kernel_rfl) (fun _ _ _ h => h) rfl (fun W hW => ?_) hS ?_
  rotate_left
  · try dsimp only at hW
    go_simp
    try with_reducible rfl
  simp only [Act.put, List.setIfInBounds_toArray, List.set_cons_zero, List.set_cons_succ]
  refine ord_still 3 rfl (v := ?_) (by kernel_rfl) (fun _ _ _ h => h) rfl (fun W hW => ?_) hS ?_
  rotate_left
  · try dsimp only at hW
    go_simp
    try with_reducible rfl
  simp only [Act.put, List.setIfInBounds_toArray, List.set_cons_zero, List.set_cons_succ]
  refine ord_still 4 rfl (v := ?_) (by kernel_rfl) (fun _ _ _ h => h) rfl (fun W hW => ?_) hS ?_
  rotate_left
  · try dsimp only at hW
    go_simp
    try with_reducible rfl
  simp only [Act.put, List.setIfInBounds_toArray, List.set_cons_zero, List.set_cons_succ]
  refine ord_alone 5 rfl (by kernel_rfl) rfl (fun K hK => ?_)
  go_simp
  refine (cG.out _ (Below.refl _ _).drew).mono ?_
  rintro _ w1 ⟨rfl, hb⟩
  have HSw1 := hid (show (w1.cell? ⟨b, 1, none⟩ = some (.int .i64 (m.rt : Int)) ∧ w1.cell? ⟨b, 2, none⟩ = some (.int .i64 (m.mh : Int)) ∧ w1.cell? ⟨b, 3, none⟩ = some (.pointer (some ⟨g, 0, none⟩)) ∧ w1.cell? ⟨b, 4, none⟩ = some (.pointer (some ⟨hg, 0, none⟩))) ∧ (w1.cell? ⟨w.heap.size, 0, none⟩ = some (.int .u64 (p1 : Int)) ∧ w1.cell? ⟨w.heap.size, 1, none⟩ = some (.int .u64 (p2 : Int)) ∧ w1.cell? ⟨w.heap.size, 2, none⟩ = some (.int .i64 p3)) from ⟨⟨bcb hb hS.1.1, bcb hb hS.1.2.1, bcb hb hS.1.2.2.1, bcb hb hS.1.2.2.2⟩, bcb hb hS.2.1, bcb hb hS.2.2.1, bcb hb hS.2.2.2⟩)
  have HBw1 := hid ((Below.refl w0.heap.size w0).drew.trans hb)
  clear hb
  clear hS
  have hS : (w1.cell? ⟨b, 1, none⟩ = some (.int .i64 (m.rt : Int)) ∧ w1.cell? ⟨b, 2, none⟩ = some (.int .i64 (m.mh : Int)) ∧ w1.cell? ⟨b, 3, none⟩ = some (.pointer (some ⟨g, 0, none⟩)) ∧ w1.cell? ⟨b, 4, none⟩ = some (.pointer (some ⟨hg, 0, none⟩))) ∧ (w1.cell? ⟨w.heap.size, 0, none⟩ = some (.int .u64 (p1 : Int)) ∧ w1.cell? ⟨w.heap.size, 1, none⟩ = some (.int .u64 (p2 : Int)) ∧ w1.cell? ⟨w.heap.size, 2, none⟩ = some (.int .i64 p3)) := HSw1.out
  refine hK.out _ _ hS ?_
  clear hK
  refine ord_still 6 rfl (v := ?_) (by kernel_rfl) (fun _ _ _ h => h) rfl (fun W hW => ?_) hS ?_
  rotate_left
  · try dsimp only at hW
    go_simp
    try with_reducible rfl
  simp only [Act.put, List.setIfInBounds_toArray, List.set_cons_zero, List.set_cons_succ]
  refine ord_still 7 rfl (v := ?_) (by kernel_rfl) (fun _ _ _ h => h) rfl (fun W hW => ?_) hS ?_
  rotate_left
  · try dsimp only at hW
    go_simp
    try with_reducible rfl
  simp only [Act.put, List.setIfInBounds_toArray, List.set_cons_zero, List.set_cons_succ]
  refine ord_still 8 rfl (v := ?_) (by kernel_rfl) (fun _ _ _ h => h) rfl (fun W hW => ?_) hS ?_
  rotate_left
  · try dsimp only at hW
    go_simp
    try with_reducible rfl
  simp only [Act.put, List.setIfInBounds_toArray, List.set_cons_zero, List.set_cons_succ]
  refine ord_still 9 rfl (v := ?_) (by kernel_rfl) (fun _ _ _ h => h) rfl (fun W hW => ?_) hS ?_
  rotate_left
  · try dsimp only at hW
    go_simp
    try with_reducible rfl
  simp only [Act.put, List.setIfInBounds_toArray, List.set_cons_zero, List.set_cons_succ]
  refine ord_still 10 rfl (v := ?_) (by kernel_rfl) (fun _ _ _ h => h) rfl (fun W hW => ?_) hS ?_
  rotate_left
  · try dsimp only at hW
    go_simp
    try with_reducible rfl
  simp only [Act.put, List.setIfInBounds_toArray, List.set_cons_zero, List.set_cons_succ]
  refine ord_done (by kernel_rfl) ?_
  clear hS cG y1 y2 y3 y4 x0 x1 x2
  have hS := HSw1.out
  cases v with
  | none =>
    have HE := hid (HN.out rfl)
    clear HN HS0 HUW
    simp only [Option.getD_none, Option.isSome_none]
    by_cases h5 : m.rt ≤ n
    · rw [if_pos h5] at HE
      have d5 : decide ((m.rt : Int) ≤ (n : Int)) = true := decide_eq_true (by omega)
      go_wp2_with fail
      have hS : (w1.drew.cell? ⟨b, 1, none⟩ = some (.int .i64 (m.rt : Int)) ∧ w1.drew.cell? ⟨b, 2, none⟩ = some (.int .i64 (m.mh : Int)) ∧ w1.drew.cell? ⟨b, 3, none⟩ = some (.pointer (some ⟨g, 0, none⟩)) ∧ w1.drew.cell? ⟨b, 4, none⟩ = some (.pointer (some ⟨hg, 0, none⟩))) ∧ (w1.drew.cell? ⟨w.heap.size, 0, none⟩ = some (.int .u64 (p1 : Int)) ∧ w1.drew.cell? ⟨w.heap.size, 1, none⟩ = some (.int .u64 (p2 : Int)) ∧ w1.drew.cell? ⟨w.heap.size, 2, none⟩ = some (.int .i64 p3)) := hS
      refine wp_region_ord (fun w' => (w'.cell? ⟨b, 1, none⟩ = some (.int .i64 (m.rt : Int)) ∧ w'.cell? ⟨b, 2, none⟩ = some (.int .i64 (m.mh : Int)) ∧ w'.cell? ⟨b, 3, none⟩ = some (.pointer (some ⟨g, 0, none⟩)) ∧ w'.cell? ⟨b, 4, none⟩ = some (.pointer (some ⟨hg, 0, none⟩))) ∧ (w'.cell? ⟨w.heap.size, 0, none⟩ = some (.int .u64 (p1 : Int)) ∧ w'.cell? ⟨w.heap.size, 1, none⟩ = some (.int .u64 (p2 : Int)) ∧ w'.cell? ⟨w.heap.size, 2, none⟩ = some (.int .i64 p3))) (by kernel_rfl) hS ?_
      refine ord_still 0 rfl (v := ?_) (by kernel_rfl) (fun _ _ _ h => h) rfl (fun W hW => ?_) hS ?_
      rotate_left
      · try dsimp only at hW
        go_simp
        try with_reducible rfl
      simp only [Act.put, List.setIfInBounds_toArray, List.set_cons_zero, List.set_cons_succ]
      refine ord_still 1 rfl (v := ?_) (by kernel_rfl) (fun _ _ _ h => h) rfl (fun W hW => ?_) hS ?_
      rotate_left
      · try dsimp only at hW
        go_simp
        try with_reducible rfl
      simp only [Act.put, List.setIfInBounds_toArray, List.set_cons_zero, List.set_cons_succ]
      refine ord_still 2 rfl (v := ?_) (by kernel_rfl) (fun _ _ _ h => h) rfl (fun W hW => ?_) hS ?_
      rotate_left
      · try dsimp only at hW
        go_simp
        try with_reducible rfl
      simp only [Act.put, List.setIfInBounds_toArray, List.set_cons_zero, List.set_cons_succ]
      refine ord_still 3 rfl (v := ?_) (by kernel_rfl) (fun _ _ _ h => h) rfl (fun W hW => ?_) hS ?_
      rotate_left
      · try dsimp only at hW
        go_simp
        try with_reducible rfl
      simp only [Act.put, List.setIfInBounds_toArray, List.set_cons_zero, List.set_cons_succ]
      refine ord_still 4 rfl (v := ?_) (by kernel_rfl) (fun _ _ _ h => h) rfl (fun W hW => ?_) hS ?_
      rotate_left
      · try dsimp only at hW
        go_simp
        try with_reducible rfl
      simp only [Act.put, List.setIfInBounds_toArray, List.set_cons_zero, List.set_cons_succ]
      refine ord_still 5 rfl (v := ?_) (by kernel_rfl) (fun _ _ _ h => h) rfl (fun W hW => ?_) hS ?_
      rotate_left
      · try dsimp only at hW
        go_simp
        try with_reducible rfl
      simp only [Act.put, List.setIfInBounds_toArray, List.set_cons_zero, List.set_cons_succ]
      refine ord_still 6 rfl (v := ?_) (by kernel_rfl) (fun _ _ _ h => h) rfl (fun W hW => ?_) hS ?_
      rotate_left
      · try dsimp only at hW
        go_simp
        try with_reducible rfl
      simp only [Act.put, List.setIfInBounds_toArray, List.set_cons_zero, List.set_cons_succ]
      refine ord_still 8 rfl (v := ?_) (by kernel_rfl) (fun _ _ _ h => h) rfl (fun W hW => ?_) hS ?_
      rotate_left
      · try dsimp only at hW
        go_simp
        try with_reducible rfl
      simp only [Act.put, List.setIfInBounds_toArray, List.set_cons_zero, List.set_cons_succ]
      refine ord_still 9 rfl (v := ?_) (by kernel_rfl) (fun _ _ _ h => h) rfl (fun W hW => ?_) hS ?_
      rotate_left
      · try dsimp only at hW
        go_simp
        try with_reducible rfl
      simp only [Act.put, List.setIfInBounds_toArray, List.set_cons_zero, List.set_cons_succ]
      refine ord_still 10 rfl (v := ?_) (by kernel_rfl) (fun _ _ _ h => h) rfl (fun W hW => ?_) hS ?_
      rotate_left
      · try dsimp only at hW
        go_simp
        try with_reducible rfl
      simp only [Act.put, List.setIfInBounds_toArray, List.set_cons_zero, List.set_cons_succ]
      refine ord_still 11 rfl (v := ?_) (by kernel_rfl) (fun _ _ _ h => h) rfl (fun W hW => ?_) hS ?_
      rotate_left
      · try dsimp only at hW
        go_simp
        try with_reducible rfl
      simp only [Act.put, List.setIfInBounds_toArray, List.set_cons_zero, List.set_cons_succ]
      refine ord_alone 7 rfl (by kernel_rfl) rfl (fun K hK => ?_)
      go_simp
      refine (cL.out _ HBw1.out.drew).mono ?_
      rintro _ w2 ⟨rfl, rfl⟩
      clear hS
      have hS : (w1.drew.cell? ⟨b, 1, none⟩ = some (.int .i64 (m.rt : Int)) ∧ w1.drew.cell? ⟨b, 2, none⟩ = some (.int .i64 (m.mh : Int)) ∧ w1.drew.cell? ⟨b, 3, none⟩ = some (.pointer (some ⟨g, 0, none⟩)) ∧ w1.drew.cell? ⟨b, 4, none⟩ = some (.pointer (some ⟨hg, 0, none⟩))) ∧ (w1.drew.cell? ⟨w.heap.size, 0, none⟩ = some (.int .u64 (p1 : Int)) ∧ w1.drew.cell? ⟨w.heap.size, 1, none⟩ = some (.int .u64 (p2 : Int)) ∧ w1.drew.cell? ⟨w.heap.size, 2, none⟩ = some (.int .i64 p3)) := HSw1.out
      refine hK.out _ _ hS ?_
      clear hK
      refine ord_still 12 rfl (v := ?_) (by kernel_rfl) (fun _ _ _ h => h) rfl (fun W hW => ?_) hS ?_
      rotate_left
      · try dsimp only at hW
        go_simp
        try with_reducible rfl
      simp only [Act.put, List.setIfInBounds_toArray, List.set_cons_zero, List.set_cons_succ]
      refine ord_still 13 rfl (v := ?_) (by kernel_rfl) (fun _ _ _ h => h) rfl (fun W hW => ?_) hS ?_
      rotate_left
      · try dsimp only at hW
        go_simp
        try with_reducible rfl
      simp only [Act.put, List.setIfInBounds_toArray, List.set_cons_zero, List.set_cons_succ]
      refine ord_done (by kernel_rfl) ?_
      clear hS
      go_wp2_with fail
      go_ret
      exact ⟨by rw [HE.out]; rfl, HB.out.trans (HBw1.out.drew.mono HB.out.size)⟩
    · rw [if_neg h5] at HE
      have d5 : decide ((m.rt : Int) ≤ (n : Int)) = false := decide_eq_false (by omega)
      go_wp2_with fail
      have hS : (w1.drew.cell? ⟨b, 1, none⟩ = some (.int .i64 (m.rt : Int)) ∧ w1.drew.cell? ⟨b, 2, none⟩ = some (.int .i64 (m.mh : Int)) ∧ w1.drew.cell? ⟨b, 3, none⟩ = some (.pointer (some ⟨g, 0, none⟩)) ∧ w1.drew.cell? ⟨b, 4, none⟩ = some (.pointer (some ⟨hg, 0, none⟩))) ∧ (w1.drew.cell? ⟨w.heap.size, 0, none⟩ = some (.int .u64 (p1 : Int)) ∧ w1.drew.cell? ⟨w.heap.size, 1, none⟩ = some (.int .u64 (p2 : Int)) ∧ w1.drew.cell? ⟨w.heap.size, 2, none⟩ = some (.int .i64 p3)) := hS
      refine wp_region_ord (fun w' => (w'.cell? ⟨b, 1, none⟩ = some (.int .i64 (m.rt : Int)) ∧ w'.cell? ⟨b, 2, none⟩ = some (.int .i64 (m.mh : Int)) ∧ w'.cell? ⟨b, 3, none⟩ = some (.pointer (some ⟨g, 0, none⟩)) ∧ w'.cell? ⟨b, 4, none⟩ = some (.pointer (some ⟨hg, 0, none⟩))) ∧ (w'.cell? ⟨w.heap.size, 0, none⟩ = some (.int .u64 (p1 : Int)) ∧ w'.cell? ⟨w.heap.size, 1, none⟩ = some (.int .u64 (p2 : Int)) ∧ w'.cell? ⟨w.heap.size, 2, none⟩ = some (.int .i64 p3))) (by kernel_rfl) hS ?_
      refine ord_still 0 rfl (v := ?_) (by kernel_rfl) (fun _ _ _ h => h) rfl (fun W hW => ?_) hS ?_
      rotate_left
      · try dsimp only at hW
        go_simp
        try with_reducible rfl
      simp only [Act.put, List.setIfInBounds_toArray, List.set_cons_zero, List.set_cons_succ]
      refine ord_still 1 rfl (v := ?_) (by kernel_rfl) (fun _ _ _ h => h) rfl (fun W hW => ?_) hS ?_
      rotate_left
      · try dsimp only at hW
        go_simp
        try with_reducible rfl
      simp only [Act.put, List.setIfInBounds_toArray, List.set_cons_zero, List.set_cons_succ]
      refine ord_still 2 rfl (v := ?_) (by kernel_rfl) (fun _ _ _ h => h) rfl (fun W hW => ?_) hS ?_
      rotate_left
      · try dsimp only at hW
        go_simp
        try with_reducible rfl
      simp only [Act.put, List.setIfInBounds_toArray, List.set_cons_zero, List.set_cons_succ]
      refine ord_still 3 rfl (v := ?_) (by kernel_rfl) (fun _ _ _ h => h) rfl (fun W hW => ?_) hS ?_
      rotate_left
      · try dsimp only at hW
        go_simp
        try with_reducible rfl
      simp only [Act.put, List.setIfInBounds_toArray, List.set_cons_zero, List.set_cons_succ]
      refine ord_still 4 rfl (v := ?_) (by kernel_rfl) (fun _ _ _ h => h) rfl (fun W hW => ?_) hS ?_
      rotate_left
      · try dsimp only at hW
        go_simp
        try with_reducible rfl
      simp only [Act.put, List.setIfInBounds_toArray, List.set_cons_zero, List.set_cons_succ]
      refine ord_still 5 rfl (v := ?_) (by kernel_rfl) (fun _ _ _ h => h) rfl (fun W hW => ?_) hS ?_
      rotate_left
      · try dsimp only at hW
        go_simp
        try with_reducible rfl
      simp only [Act.put, List.setIfInBounds_toArray, List.set_cons_zero, List.set_cons_succ]
      refine ord_still 6 rfl (v := ?_) (by kernel_rfl) (fun _ _ _ h => h) rfl (fun W hW => ?_) hS ?_
      rotate_left
      · try dsimp only at hW
        go_simp
        try with_reducible rfl
      simp only [Act.put, List.setIfInBounds_toArray, List.set_cons_zero, List.set_cons_succ]
      refine ord_still 8 rfl (v := ?_) (by kernel_rfl) (fun _ _ _ h => h) rfl (fun W hW => ?_) hS ?_
      rotate_left
      · try dsimp only at hW
        go_simp
        try with_reducible rfl
      simp only [Act.put, List.setIfInBounds_toArray, List.set_cons_zero, List.set_cons_succ]
      refine ord_still 9 rfl (v := ?_) (by kernel_rfl) (fun _ _ _ h => h) rfl (fun W hW => ?_) hS ?_
      rotate_left
      · try dsimp only at hW
        go_simp
        try with_reducible rfl
      simp only [Act.put, List.setIfInBounds_toArray, List.set_cons_zero, List.set_cons_succ]
      refine ord_still 10 rfl (v := ?_) (by kernel_rfl) (fun _ _ _ h => h) rfl (fun W hW => ?_) hS ?_
      rotate_left
      · try dsimp only at hW
        go_simp
        try with_reducible rfl
      simp only [Act.put, List.setIfInBounds_toArray, List.set_cons_zero, List.set_cons_succ]
      refine ord_still 11 rfl (v := ?_) (by kernel_rfl) (fun _ _ _ h => h) rfl (fun W hW => ?_) hS ?_
      rotate_left
      · try dsimp only at hW
        go_simp
        try with_reducible rfl
      simp only [Act.put, List.setIfInBounds_toArray, List.set_cons_zero, List.set_cons_succ]
      refine ord_alone 7 rfl (by kernel_rfl) rfl (fun K hK => ?_)
      go_simp
      refine (cL.out _ HBw1.out.drew).mono ?_
      rintro _ w2 ⟨rfl, rfl⟩
      clear hS
      have hS : (w1.drew.cell? ⟨b, 1, none⟩ = some (.int .i64 (m.rt : Int)) ∧ w1.drew.cell? ⟨b, 2, none⟩ = some (.int .i64 (m.mh : Int)) ∧ w1.drew.cell? ⟨b, 3, none⟩ = some (.pointer (some ⟨g, 0, none⟩)) ∧ w1.drew.cell? ⟨b, 4, none⟩ = some (.pointer (some ⟨hg, 0, none⟩))) ∧ (w1.drew.cell? ⟨w.heap.size, 0, none⟩ = some (.int .u64 (p1 : Int)) ∧ w1.drew.cell? ⟨w.heap.size, 1, none⟩ = some (.int .u64 (p2 : Int)) ∧ w1.drew.cell? ⟨w.heap.size, 2, none⟩ = some (.int .i64 p3)) := HSw1.out
      refine hK.out _ _ hS ?_
      clear hK
      refine ord_still 12 rfl (v := ?_) (by kernel_rfl) (fun _ _ _ h => h) rfl (fun W hW => ?_) hS ?_
      rotate_left
      · try dsimp only at hW
        go_simp
        try with_reducible rfl
      simp only [Act.put, List.setIfInBounds_toArray, List.set_cons_zero, List.set_cons_succ]
      refine ord_still 13 rfl (v := ?_) (by kernel_rfl) (fun _ _ _ h => h) rfl (fun W hW => ?_) hS ?_
      rotate_left
      · try dsimp only at hW
        go_simp
        try with_reducible rfl
      simp only [Act.put, List.setIfInBounds_toArray, List.set_cons_zero, List.set_cons_succ]
      refine ord_done (by kernel_rfl) ?_
      clear hS
      go_wp2_with fail
      have hS : (w1.drew.drew.cell? ⟨b, 1, none⟩ = some (.int .i64 (m.rt : Int)) ∧ w1.drew.drew.cell? ⟨b, 2, none⟩ = some (.int .i64 (m.mh : Int)) ∧ w1.drew.drew.cell? ⟨b, 3, none⟩ = some (.pointer (some ⟨g, 0, none⟩)) ∧ w1.drew.drew.cell? ⟨b, 4, none⟩ = some (.pointer (some ⟨hg, 0, none⟩))) ∧ (w1.drew.drew.cell? ⟨w.heap.size, 0, none⟩ = some (.int .u64 (p1 : Int)) ∧ w1.drew.drew.cell? ⟨w.heap.size, 1, none⟩ = some (.int .u64 (p2 : Int)) ∧ w1.drew.drew.cell? ⟨w.heap.size, 2, none⟩ = some (.int .i64 p3)) := HSw1.out
      refine wp_region_ord (fun w' => (w'.cell? ⟨b, 1, none⟩ = some (.int .i64 (m.rt : Int)) ∧ w'.cell? ⟨b, 2, none⟩ = some (.int .i64 (m.mh : Int)) ∧ w'.cell? ⟨b, 3, none⟩ = some (.pointer (some ⟨g, 0, none⟩)) ∧ w'.cell? ⟨b, 4, none⟩ = some (.pointer (some ⟨hg, 0, none⟩))) ∧ (w'.cell? ⟨w.heap.size, 0, none⟩ = some (.int .u64 (p1 : Int)) ∧ w'.cell? ⟨w.heap.size, 1, none⟩ = some (.int .u64 (p2 : Int)) ∧ w'.cell? ⟨w.heap.size, 2, none⟩ = some (.int .i64 p3))) (by kernel_rfl) hS ?_
      refine ord_still 0 rfl (v := ?_) (by kernel_rfl) (fun _ _ _ h => h) rfl (fun W hW => ?_) hS ?_
      rotate_left
      · try dsimp only at hW
        go_simp
        try with_reducible rfl
      simp only [Act.put, List.setIfInBounds_toArray, List.set_cons_zero, List.set_cons_succ]
      refine ord_still 1 rfl (v := ?_) (by kernel_rfl) (fun _ _ _ h => h) rfl (fun W hW => ?_) hS ?_
      rotate_left
      · try dsimp only at hW
        go_simp
        try with_reducible rfl
      simp only [Act.put, List.setIfInBounds_toArray, List.set_cons_zero, List.set_cons_succ]
      refine ord_still 2 rfl (v := ?_) (by kernel_rfl) (fun _ _ _ h => h) rfl (fun W hW => ?_) hS ?_
      rotate_left
      · try dsimp only at hW
        go_simp
        try with_reducible rfl
      simp only [Act.put, List.setIfInBounds_toArray, List.set_cons_zero, List.set_cons_succ]
      refine ord_still 3 rfl (v := ?_) (by kernel_rfl) (fun _ _ _ h => h) rfl (fun W hW => ?_) hS ?_
      rotate_left
      · try dsimp only at hW
        go_simp
        try with_reducible rfl
      simp only [Act.put, List.setIfInBounds_toArray, List.set_cons_zero, List.set_cons_succ]
      refine ord_still 4 rfl (v := ?_) (by kernel_rfl) (fun _ _ _ h => h) rfl (fun W hW => ?_) hS ?_
      rotate_left
      · try dsimp only at hW
        go_simp
        try with_reducible rfl
      simp only [Act.put, List.setIfInBounds_toArray, List.set_cons_zero, List.set_cons_succ]
      refine ord_still 6 rfl (v := ?_) (by kernel_rfl) (fun _ _ _ h => h) rfl (fun W hW => ?_) hS ?_
      rotate_left
      · try dsimp only at hW
        go_simp
        try with_reducible rfl
      simp only [Act.put, List.setIfInBounds_toArray, List.set_cons_zero, List.set_cons_succ]
      refine ord_still 7 rfl (v := ?_) (by kernel_rfl) (fun _ _ _ h => h) rfl (fun W hW => ?_) hS ?_
      rotate_left
      · try dsimp only at hW
        go_simp
        try with_reducible rfl
      simp only [Act.put, List.setIfInBounds_toArray, List.set_cons_zero, List.set_cons_succ]
      refine ord_still 8 rfl (v := ?_) (by kernel_rfl) (fun _ _ _ h => h) rfl (fun W hW => ?_) hS ?_
      rotate_left
      · try dsimp only at hW
        go_simp
        try with_reducible rfl
      simp only [Act.put, List.setIfInBounds_toArray, List.set_cons_zero, List.set_cons_succ]
      refine ord_still 9 rfl (v := ?_) (by kernel_rfl) (fun _ _ _ h => h) rfl (fun W hW => ?_) hS ?_
      rotate_left
      · try dsimp only at hW
        go_simp
        try with_reducible rfl
      simp only [Act.put, List.setIfInBounds_toArray, List.set_cons_zero, List.set_cons_succ]
      refine ord_alone 5 rfl (by kernel_rfl) rfl (fun K hK => ?_)
      go_simp
      refine (cU.out _ HBw1.out.drew.drew _ WH.out).mono ?_
      rintro _ w2 ⟨rfl, rfl⟩
      clear hS
      have hS : (w1.drew.drew.cell? ⟨b, 1, none⟩ = some (.int .i64 (m.rt : Int)) ∧ w1.drew.drew.cell? ⟨b, 2, none⟩ = some (.int .i64 (m.mh : Int)) ∧ w1.drew.drew.cell? ⟨b, 3, none⟩ = some (.pointer (some ⟨g, 0, none⟩)) ∧ w1.drew.drew.cell? ⟨b, 4, none⟩ = some (.pointer (some ⟨hg, 0, none⟩))) ∧ (w1.drew.drew.cell? ⟨w.heap.size, 0, none⟩ = some (.int .u64 (p1 : Int)) ∧ w1.drew.drew.cell? ⟨w.heap.size, 1, none⟩ = some (.int .u64 (p2 : Int)) ∧ w1.drew.drew.cell? ⟨w.heap.size, 2, none⟩ = some (.int .i64 p3)) := HSw1.out
      refine hK.out _ _ hS ?_
      clear hK
      refine ord_alone 10 rfl (by kernel_rfl) rfl (fun K hK => ?_)
      go_simp
      refine (cC.out _ HBw1.out.drew.drew).mono ?_
      rintro _ w2 ⟨rfl, rfl⟩
      clear hS
      have hS : (w1.drew.drew.cell? ⟨b, 1, none⟩ = some (.int .i64 (m.rt : Int)) ∧ w1.drew.drew.cell? ⟨b, 2, none⟩ = some (.int .i64 (m.mh : Int)) ∧ w1.drew.drew.cell? ⟨b, 3, none⟩ = some (.pointer (some ⟨g, 0, none⟩)) ∧ w1.drew.drew.cell? ⟨b, 4, none⟩ = some (.pointer (some ⟨hg, 0, none⟩))) ∧ (w1.drew.drew.cell? ⟨w.heap.size, 0, none⟩ = some (.int .u64 (p1 : Int)) ∧ w1.drew.drew.cell? ⟨w.heap.size, 1, none⟩ = some (.int .u64 (p2 : Int)) ∧ w1.drew.drew.cell? ⟨w.heap.size, 2, none⟩ = some (.int .i64 p3)) := HSw1.out
      refine hK.out _ _ hS ?_
      clear hK
      refine ord_still 11 rfl (v := ?_) (by kernel_rfl) (fun _ _ _ h => h) rfl (fun W hW => ?_) hS ?_
      rotate_left
      · try dsimp only at hW
        go_simp
        try with_reducible rfl
      simp only [Act.put, List.setIfInBounds_toArray, List.set_cons_zero, List.set_cons_succ]
      refine ord_still 12 rfl (v := ?_) (by kernel_rfl) (fun _ _ _ h => h) rfl (fun W hW => ?_) hS ?_
      rotate_left
      · try dsimp only at hW
        go_simp
        try with_reducible rfl
      simp only [Act.put, List.setIfInBounds_toArray, List.set_cons_zero, List.set_cons_succ]
      refine ord_done (by kernel_rfl) ?_
      clear hS
      have HCQ := hid (show ((L.count hop : Int) == 0) = decide (L.count hop = 0) by rw [Bool.eq_iff_iff]; simp)
      have HDQ := hid (show decide ((m.mh : Int) ≤ (dist L : Int)) = decide (m.mh ≤ dist L) by rw [Bool.eq_iff_iff]; simp)
      have y2 : w1.drew.drew.cell? ⟨b, 2, none⟩ = some (.int .i64 (m.mh : Int)) := HSw1.out.1.2.1
      by_cases h6 : L.count hop = 0
      · by_cases h7 : m.mh ≤ dist L
        · rw [if_pos ⟨h6, h7⟩] at HE
          have e1 := HCQ.out.trans (decide_eq_true h6)
          have e2 := HDQ.out.trans (decide_eq_true h7)
          generalize (L.count hop : Int) = c at *
          generalize (dist L : Int) = d at *
          clear h6 h7
          go_wp2_with fail
          go_ret
          exact ⟨by rw [HE.out]; rfl, HB.out.trans (HBw1.out.drew.drew.mono HB.out.size)⟩
        · rw [if_neg (fun k => h7 k.2)] at HE
          have e1 := HCQ.out.trans (decide_eq_true h6)
          have e2 := HDQ.out.trans (decide_eq_false h7)
          generalize (L.count hop : Int) = c at *
          generalize (dist L : Int) = d at *
          clear h6 h7
          go_wp2_with fail
          go_ret
          exact ⟨by rw [HE.out]; rfl, HB.out.trans (HBw1.out.drew.drew.mono HB.out.size)⟩
      · rw [if_neg (fun k => h6 k.1)] at HE
        have e1 := HCQ.out.trans (decide_eq_false h6)
        generalize (L.count hop : Int) = c at *
        generalize (dist L : Int) = d at *
        clear h6
        go_wp2_with fail
        go_ret
        exact ⟨by rw [HE.out]; rfl, HB.out.trans (HBw1.out.drew.drew.mono HB.out.size)⟩
  | some u =>
    obtain ⟨hE, hU3⟩ := HS0.out u rfl
    have HU3 := hid hU3
    clear hU3
    have HE := hid hE
    have hW := HUW.out u rfl
    have WU := hid hW
    clear HN HS0 HUW hE hW
    simp only [Option.getD_some, Option.isSome_some]
    go_wp2_with fail
    have hS : (w1.drew.cell? ⟨b, 1, none⟩ = some (.int .i64 (m.rt : Int)) ∧ w1.drew.cell? ⟨b, 2, none⟩ = some (.int .i64 (m.mh : Int)) ∧ w1.drew.cell? ⟨b, 3, none⟩ = some (.pointer (some ⟨g, 0, none⟩)) ∧ w1.drew.cell? ⟨b, 4, none⟩ = some (.pointer (some ⟨hg, 0, none⟩))) ∧ (w1.drew.cell? ⟨w.heap.size, 0, none⟩ = some (.int .u64 (p1 : Int)) ∧ w1.drew.cell? ⟨w.heap.size, 1, none⟩ = some (.int .u64 (p2 : Int)) ∧ w1.drew.cell? ⟨w.heap.size, 2, none⟩ = some (.int .i64 p3)) := hS
    refine wp_region_ord (fun w' => (w'.cell? ⟨b, 1, none⟩ = some (.int .i64 (m.rt : Int)) ∧ w'.cell? ⟨b, 2, none⟩ = some (.int .i64 (m.mh : Int)) ∧ w'.cell? ⟨b, 3, none⟩ = some (.pointer (some ⟨g, 0, none⟩)) ∧ w'.cell? ⟨b, 4, none⟩ = some (.pointer (some ⟨hg, 0, none⟩))) ∧ (w'.cell? ⟨w.heap.size, 0, none⟩ = some (.int .u64 (p1 : Int)) ∧ w'.cell? ⟨w.heap.size, 1, none⟩ = some (.int .u64 (p2 : Int)) ∧ w'.cell? ⟨w.heap.size, 2, none⟩ = some (.int .i64 p3))) (by kernel_rfl) hS ?_
    refine ord_still 0 rfl (v := ?_) (by kernel_rfl) (fun _ _ _ h => h) rfl (fun W hW => ?_) hS ?_
    rotate_left
    · try dsimp only at hW
      go_simp
      try with_reducible rfl
    simp only [Act.put, List.setIfInBounds_toArray, List.set_cons_zero, List.set_cons_succ]
    refine ord_still 1 rfl (v := ?_) (by kernel_rfl) (fun _ _ _ h => h) rfl (fun W hW => ?_) hS ?_
    rotate_left
    · try dsimp only at hW
      go_simp
      try with_reducible rfl
    simp only [Act.put, List.setIfInBounds_toArray, List.set_cons_zero, List.set_cons_succ]
    refine ord_still 2 rfl (v := ?_) (by kernel_rfl) (fun _ _ _ h => h) rfl (fun W hW => ?_) hS ?_
    rotate_left
    · try dsimp only at hW
      go_simp
      try with_reducible rfl
    simp only [Act.put, List.setIfInBounds_toArray, List.set_cons_zero, List.set_cons_succ]
    refine ord_skip 3 rfl (by kernel_rfl) (fun _ _ _ h => h) rfl hS ?_
    simp only [Act.put, List.setIfInBounds_toArray, List.set_cons_zero, List.set_cons_succ]
    refine ord_skip 4 rfl (by kernel_rfl) (fun _ _ _ h => h) rfl hS ?_
    simp only [Act.put, List.setIfInBounds_toArray, List.set_cons_zero, List.set_cons_succ]
    refine ord_skip 5 rfl (by kernel_rfl) (fun _ _ _ h => h) rfl hS ?_
    simp only [Act.put, List.setIfInBounds_toArray, List.set_cons_zero, List.set_cons_succ]
    refine ord_skip 6 rfl (by kernel_rfl) (fun _ _ _ h => h) rfl hS ?_
    simp only [Act.put, List.setIfInBounds_toArray, List.set_cons_zero, List.set_cons_succ]
    refine ord_skip 7 rfl (by kernel_rfl) (fun _ _ _ h => h) rfl hS ?_
    simp only [Act.put, List.setIfInBounds_toArray, List.set_cons_zero, List.set_cons_succ]
    refine ord_skip 8 rfl (by kernel_rfl) (fun _ _ _ h => h) rfl hS ?_
    simp only [Act.put, List.setIfInBounds_toArray, List.set_cons_zero, List.set_cons_succ]
    refine ord_skip 9 rfl (by kernel_rfl) (fun _ _ _ h => h) rfl hS ?_
    simp only [Act.put, List.setIfInBounds_toArray, List.set_cons_zero, List.set_cons_succ]
    refine ord_skip 10 rfl (by kernel_rfl) (fun _ _ _ h => h) rfl hS ?_
    simp only [Act.put, List.setIfInBounds_toArray, List.set_cons_zero, List.set_cons_succ]
    refine ord_skip 11 rfl (by kernel_rfl) (fun _ _ _ h => h) rfl hS ?_
    simp only [Act.put, List.setIfInBounds_toArray, List.set_cons_zero, List.set_cons_succ]
    refine ord_skip 12 rfl (by kernel_rfl) (fun _ _ _ h => h) rfl hS ?_
    simp only [Act.put, List.setIfInBounds_toArray, List.set_cons_zero, List.set_cons_succ]
    refine ord_still 13 rfl (v := ?_) (by kernel_rfl) (fun _ _ _ h => h) rfl (fun W hW => ?_) hS ?_
    rotate_left
    · try dsimp only at hW
      go_simp
      try with_reducible rfl
    simp only [Act.put, List.setIfInBounds_toArray, List.set_cons_zero, List.set_cons_succ]
    refine ord_done (by kernel_rfl) ?_
    clear hS
    go_wp2_with fail
    have hS : (w1.drew.drew.cell? ⟨b, 1, none⟩ = some (.int .i64 (m.rt : Int)) ∧ w1.drew.drew.cell? ⟨b, 2, none⟩ = some (.int .i64 (m.mh : Int)) ∧ w1.drew.drew.cell? ⟨b, 3, none⟩ = some (.pointer (some ⟨g, 0, none⟩)) ∧ w1.drew.drew.cell? ⟨b, 4, none⟩ = some (.pointer (some ⟨hg, 0, none⟩))) ∧ (w1.drew.drew.cell? ⟨w.heap.size, 0, none⟩ = some (.int .u64 (p1 : Int)) ∧ w1.drew.drew.cell? ⟨w.heap.size, 1, none⟩ = some (.int .u64 (p2 : Int)) ∧ w1.drew.drew.cell? ⟨w.heap.size, 2, none⟩ = some (.int .i64 p3)) := HSw1.out
    refine wp_region_ord (fun w' => (w'.cell? ⟨b, 1, none⟩ = some (.int .i64 (m.rt : Int)) ∧ w'.cell? ⟨b, 2, none⟩ = some (.int .i64 (m.mh : Int)) ∧ w'.cell? ⟨b, 3, none⟩ = some (.pointer (some ⟨g, 0, none⟩)) ∧ w'.cell? ⟨b, 4, none⟩ = some (.pointer (some ⟨hg, 0, none⟩))) ∧ (w'.cell? ⟨w.heap.size, 0, none⟩ = some (.int .u64 (p1 : Int)) ∧ w'.cell? ⟨w.heap.size, 1, none⟩ = some (.int .u64 (p2 : Int)) ∧ w'.cell? ⟨w.heap.size, 2, none⟩ = some (.int .i64 p3))) (by kernel_rfl) hS ?_
    refine ord_still 0 rfl (v := ?_) (by kernel_rfl) (fun _ _ _ h => h) rfl (fun W hW => ?_) hS ?_
    rotate_left
    · try dsimp only at hW
      go_simp
      try with_reducible rfl
    simp only [Act.put, List.setIfInBounds_toArray, List.set_cons_zero, List.set_cons_succ]
    refine ord_still 1 rfl (v := ?_) (by kernel_rfl) (fun _ _ _ h => h) rfl (fun W hW => ?_) hS ?_
    rotate_left
    · try dsimp only at hW
      go_simp
      try with_reducible rfl
    simp only [Act.put, List.setIfInBounds_toArray, List.set_cons_zero, List.set_cons_succ]
    refine ord_still 2 rfl (v := ?_) (by kernel_rfl) (fun _ _ _ h => h) rfl (fun W hW => ?_) hS ?_
    rotate_left
    · try dsimp only at hW
      go_simp
      try with_reducible rfl
    simp only [Act.put, List.setIfInBounds_toArray, List.set_cons_zero, List.set_cons_succ]
    refine ord_still 3 rfl (v := ?_) (by kernel_rfl) (fun _ _ _ h => h) rfl (fun W hW => ?_) hS ?_
    rotate_left
    · try dsimp only at hW
      go_simp
      try with_reducible rfl
    simp only [Act.put, List.setIfInBounds_toArray, List.set_cons_zero, List.set_cons_succ]
    refine ord_still 4 rfl (v := ?_) (by kernel_rfl) (fun _ _ _ h => h) rfl (fun W hW => ?_) hS ?_
    rotate_left
    · try dsimp only at hW
      go_simp
      try with_reducible rfl
    simp only [Act.put, List.setIfInBounds_toArray, List.set_cons_zero, List.set_cons_succ]
    refine ord_still 6 rfl (v := ?_) (by kernel_rfl) (fun _ _ _ h => h) rfl (fun W hW => ?_) hS ?_
    rotate_left
    · try dsimp only at hW
      go_simp
      try with_reducible rfl
    simp only [Act.put, List.setIfInBounds_toArray, List.set_cons_zero, List.set_cons_succ]
    refine ord_still 7 rfl (v := ?_) (by kernel_rfl) (fun _ _ _ h => h) rfl (fun W hW => ?_) hS ?_
    rotate_left
    · try dsimp only at hW
      go_simp
      try with_reducible rfl
    simp only [Act.put, List.setIfInBounds_toArray, List.set_cons_zero, List.set_cons_succ]
    refine ord_still 8 rfl (v := ?_) (by kernel_rfl) (fun _ _ _ h => h) rfl (fun W hW => ?_) hS ?_
    rotate_left
    · try dsimp only at hW
      go_simp
      try with_reducible rfl
    simp only [Act.put, List.setIfInBounds_toArray, List.set_cons_zero, List.set_cons_succ]
    refine ord_still 9 rfl (v := ?_) (by kernel_rfl) (fun _ _ _ h => h) rfl (fun W hW => ?_) hS ?_
    rotate_left
    · try dsimp only at hW
      go_simp
      try with_reducible rfl
    simp only [Act.put, List.setIfInBounds_toArray, List.set_cons_zero, List.set_cons_succ]
    refine ord_alone 5 rfl (by kernel_rfl) rfl (fun K hK => ?_)
    go_simp
    refine (cU.out _ HBw1.out.drew.drew _ WH.out).mono ?_
    rintro _ w2 ⟨rfl, rfl⟩
    clear hS
    have hS : (w1.drew.drew.cell? ⟨b, 1, none⟩ = some (.int .i64 (m.rt : Int)) ∧ w1.drew.drew.cell? ⟨b, 2, none⟩ = some (.int .i64 (m.mh : Int)) ∧ w1.drew.drew.cell? ⟨b, 3, none⟩ = some (.pointer (some ⟨g, 0, none⟩)) ∧ w1.drew.drew.cell? ⟨b, 4, none⟩ = some (.pointer (some ⟨hg, 0, none⟩))) ∧ (w1.drew.drew.cell? ⟨w.heap.size, 0, none⟩ = some (.int .u64 (p1 : Int)) ∧ w1.drew.drew.cell? ⟨w.heap.size, 1, none⟩ = some (.int .u64 (p2 : Int)) ∧ w1.drew.drew.cell? ⟨w.heap.size, 2, none⟩ = some (.int .i64 p3)) := HSw1.out
    refine hK.out _ _ hS ?_
    clear hK
    refine ord_alone 10 rfl (by kernel_rfl) rfl (fun K hK => ?_)
    go_simp
    refine (cC.out _ HBw1.out.drew.drew).mono ?_
    rintro _ w2 ⟨rfl, rfl⟩
    clear hS
    have hS : (w1.drew.drew.cell? ⟨b, 1, none⟩ = some (.int .i64 (m.rt : Int)) ∧ w1.drew.drew.cell? ⟨b, 2, none⟩ = some (.int .i64 (m.mh : Int)) ∧ w1.drew.drew.cell? ⟨b, 3, none⟩ = some (.pointer (some ⟨g, 0, none⟩)) ∧ w1.drew.drew.cell? ⟨b, 4, none⟩ = some (.pointer (some ⟨hg, 0, none⟩))) ∧ (w1.drew.drew.cell? ⟨w.heap.size, 0, none⟩ = some (.int .u64 (p1 : Int)) ∧ w1.drew.drew.cell? ⟨w.heap.size, 1, none⟩ = some (.int .u64 (p2 : Int)) ∧ w1.drew.drew.cell? ⟨w.heap.size, 2, none⟩ = some (.int .i64 p3)) := HSw1.out
    refine hK.out _ _ hS ?_
    clear hK
    refine ord_still 11 rfl (v := ?_) (by kernel_rfl) (fun _ _ _ h => h) rfl (fun W hW => ?_) hS ?_
    rotate_left
    · try dsimp only at hW
      go_simp
      try with_reducible rfl
    simp only [Act.put, List.setIfInBounds_toArray, List.set_cons_zero, List.set_cons_succ]
    refine ord_still 12 rfl (v := ?_) (by kernel_rfl) (fun _ _ _ h => h) rfl (fun W hW => ?_) hS ?_
    rotate_left
    · try dsimp only at hW
      go_simp
      try with_reducible rfl
    simp only [Act.put, List.setIfInBounds_toArray, List.set_cons_zero, List.set_cons_succ]
    refine ord_done (by kernel_rfl) ?_
    clear hS
    have y2 : w1.drew.drew.cell? ⟨b, 2, none⟩ = some (.int .i64 (m.mh : Int)) := HSw1.out.1.2.1
    have y4 : w1.drew.drew.cell? ⟨b, 4, none⟩ = some (.pointer (some ⟨hg, 0, none⟩)) := HSw1.out.1.2.2.2
    have cU' := hid (cU.out _ HBw1.out.drew.drew u WU.out)
    have hbig : L.count u ≤ L.length := List.count_le_length
    have hw1 : IntKind.i64.wrap ((L.count hop : Int) - 1) = (L.count hop : Int) - 1 := by rw [IntKind.wrap_i64]; omega
    have hw2 : IntKind.i64.wrap ((dist L : Int) - 1) = (dist L : Int) - 1 := by rw [IntKind.wrap_i64]; omega
    obtain ⟨hU, hU1, hD⟩ := HU3.out
    have key : ∃ (c d : Int) (E2 : Bool), ((L.count u : Int) == 1) = E2 ∧ (if u = hop then (L.count hop : Int) - 1 else (L.count hop : Int)) = c ∧ (if E2 = true then (dist L : Int) - 1 else (dist L : Int)) = d ∧ res = (if (c == 0) = true ∧ decide ((m.mh : Int) ≤ d) = true then 6 else 0) := by
      refine ⟨_, _, _, rfl, rfl, rfl, ?_⟩
      have q1 : (if u = hop then (L.count hop : Int) - 1 else (L.count hop : Int)) = (L'.count hop : Int) := by
        by_cases k : u = hop
        · rw [if_pos k]; rw [if_pos k] at hU; omega
        · rw [if_neg k]; rw [if_neg k] at hU; omega
      have q2 : (if ((L.count u : Int) == 1) = true then (dist L : Int) - 1 else (dist L : Int)) = (dist L' : Int) := by
        by_cases k : L.count u = 1
        · rw [if_pos (by rw [beq_iff_eq]; omega)]; rw [if_pos k] at hD; omega
        · rw [if_neg (by rw [beq_iff_eq]; omega)]; rw [if_neg k] at hD; omega
      rw [q1, q2, HE.out]
      by_cases k1 : L'.count hop = 0
      · by_cases k2 : m.mh ≤ dist L'
        · rw [if_pos ⟨k1, k2⟩, if_pos ⟨by simpa using k1, decide_eq_true (by omega)⟩]
        · rw [if_neg (fun k => k2 k.2), if_neg (fun k => k2 (by have := of_decide_eq_true k.2; omega))]
      · rw [if_neg (fun k => k1 k.1), if_neg (fun k => k1 (by have := k.1; rw [beq_iff_eq] at this; omega))]
    obtain ⟨c, d, E2, h2, h3, h4, h5⟩ := key
    clear HU3 hU hU1 hD hbig hl hlim hc1 hdl hLl HE
    by_cases he : u = hop
    · subst he
      rw [if_pos rfl] at h3
      have h1 : (u == u) = true := by simp
      generalize (L.count u : Int) = c0 at *
      generalize (dist L : Int) = d0 at *
      generalize (m.mh : Int) = mh at *
      obtain ⟨B1, hB1⟩ : ∃ B1, (c == 0) = B1 := ⟨_, rfl⟩
      obtain ⟨B2, hB2⟩ : ∃ B2, decide (mh ≤ d) = B2 := ⟨_, rfl⟩
      rw [hB1, hB2] at h5
      cases E2
      all_goals
        simp only [if_true, if_false, Bool.false_eq_true] at h4
        subst h3 h4
        cases B1 <;> cases B2
        all_goals
          simp at h5
          have HR := hid h5
          clear h5
          go_wp2_with fail
          refine cU'.out.mono ?_
          rintro _ w2 ⟨rfl, rfl⟩
          go_wp2_with fail
          go_ret
          exact ⟨by rw [HR.out]; rfl, HB.out.trans (HBw1.out.drew.drew.mono HB.out.size)⟩
    · rw [if_neg he] at h3
      have h1 : (u == hop) = false := by rw [beq_eq_false_iff_ne]; exact he
      generalize (L.count hop : Int) = c0 at *
      generalize (L.count u : Int) = c1 at *
      generalize (dist L : Int) = d0 at *
      generalize (m.mh : Int) = mh at *
      obtain ⟨B1, hB1⟩ : ∃ B1, (c == 0) = B1 := ⟨_, rfl⟩
      obtain ⟨B2, hB2⟩ : ∃ B2, decide (mh ≤ d) = B2 := ⟨_, rfl⟩
      rw [hB1, hB2] at h5
      clear he
      cases E2
      all_goals
        simp only [if_true, if_false, Bool.false_eq_true] at h4
        subst h3 h4
        cases B1 <;> cases B2
        all_goals
          simp at h5
          have HR := hid h5
          clear h5
          go_wp2_with fail
          refine cU'.out.mono ?_
          rintro _ w2 ⟨rfl, rfl⟩
          go_wp2_with fail
          go_ret
          exact ⟨by rw [HR.out]; rfl, HB.out.trans (HBw1.out.drew.drew.mono HB.out.size)⟩
end Go.Proofs.Ytcnecjjgnnkjkaa
