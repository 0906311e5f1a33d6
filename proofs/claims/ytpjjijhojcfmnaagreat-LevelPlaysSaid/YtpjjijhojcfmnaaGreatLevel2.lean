/-
  A level in the heap: making one, turning keys, looking, all keys. No condition but that words are words, and that there are no more than fifty million keys.
-/
import Derived.Test.YtpjjijhojcfmnaaGreatLevel
namespace Go.Proofs.YtpjjijhojcfmnaaGreat
open Go.RowKit
set_option linter.unusedVariables false
set_option linter.unusedSimpArgs false
set_option maxRecDepth 100000

/-- A change: a key, what it had, what it has. -/
abbrev Ch := Pf × Int × Int
def chgEn (x : Ch) : List Value := [.int .u64 (x.1.1.1 : Int), .int .u64 (x.1.1.2 : Int), .int .i64 x.1.2, .int .i64 x.2.1, .int .i64 x.2.2]
theorem chgEn_len (x : Ch) : (chgEn x).length = 5 := rfl
def lvS (s : Nat) (k n : Int) (a : List Nat × Tb) (x : Ch) : List Nat × Tb := if x.1.2 = n then (lvC s k a.1 a.2 x.1 x.2.2, lvT a.2 x.1 x.2.2) else a
def lvLs (n : Int) (l : List Rt) (x : Ch) : List Rt := if x.1.2 = n then lvL l x.1 x.2.2 else l
def lvRun (s : Nat) (k n : Int) (a : List Nat × Tb) (xs : List Ch) : List Nat × Tb := xs.foldl (lvS s k n) a
def lvRunL (n : Int) (l : List Rt) (xs : List Ch) : List Rt := xs.foldl (lvLs n) l
theorem lvL_len (l : List Rt) (p : Pf) (v : Int) : (lvL l p v).length ≤ l.length + 1 := by
  unfold lvL
  split
  · exact into_length _ _
  · exact Nat.le_succ_of_le (without_le _ _)
theorem lvLs_len (n : Int) (l : List Rt) (x : Ch) : (lvLs n l x).length ≤ l.length + 1 := by
  unfold lvLs
  split
  · exact lvL_len _ _ _
  · omega
theorem LvOk.step {s : Nat} {k : Int} {m : Nat} {a : List Nat × Tb} {l : List Rt} (h : LvOk s k m a.1 a.2 l) (n : Int) (x : Ch) (hx : x.1.1.ok) : LvOk s k m (lvS s k n a x).1 (lvS s k n a x).2 (lvLs n l x) := by
  unfold lvS lvLs
  by_cases e : x.1.2 = n
  · rw [if_pos e, if_pos e]; exact h.turn x.1 hx x.2.2
  · rw [if_neg e, if_neg e]; exact h
theorem lvRun_snoc {s : Nat} {k n : Int} {a : List Nat × Tb} {xs : List Ch} {j : Nat} {x : Ch} (h : xs[j]? = some x) : lvRun s k n a (xs.take (j + 1)) = lvS s k n (lvRun s k n a (xs.take j)) x := by
  obtain ⟨hj, e⟩ := List.getElem?_eq_some_iff.1 h
  unfold lvRun
  rw [List.take_succ_eq_append_getElem hj, List.foldl_append, e]; rfl
theorem lvRunL_snoc {n : Int} {l : List Rt} {xs : List Ch} {j : Nat} {x : Ch} (h : xs[j]? = some x) : lvRunL n l (xs.take (j + 1)) = lvLs n (lvRunL n l (xs.take j)) x := by
  obtain ⟨hj, e⟩ := List.getElem?_eq_some_iff.1 h
  unfold lvRunL
  rw [List.take_succ_eq_append_getElem hj, List.foldl_append, e]; rfl
theorem lvRun_ok {s : Nat} {k : Int} {m : Nat} {a : List Nat × Tb} {l : List Rt} (h : LvOk s k m a.1 a.2 l) (n : Int) (xs : List Ch) (ho : ∀ x ∈ xs, x.1.1.ok) : ∀ j, j ≤ xs.length → LvOk s k m (lvRun s k n a (xs.take j)).1 (lvRun s k n a (xs.take j)).2 (lvRunL n l (xs.take j)) ∧ (lvRunL n l (xs.take j)).length ≤ l.length + j
  | 0, _ => ⟨h, Nat.le_refl _⟩
  | j + 1, hj => by
    have hg := List.getElem?_eq_getElem (show j < xs.length by omega)
    have ih := lvRun_ok h n xs ho j (by omega)
    rw [lvRun_snoc hg, lvRunL_snoc hg]
    refine ⟨ih.1.step n _ (ho _ (List.getElem_mem _)), ?_⟩
    have := lvLs_len n (lvRunL n l (xs.take j)) xs[j]
    omega
def LvTPost (w : World) (b : Nat) (F : Nat → Prop) (n : Int) (s : Nat) (k : Int) (a : List Nat × Tb) (e : Ending) (w' : World) : Prop :=
  e = .returned (.tuple #[]) ∧ Lv w' b (fun z => F z ∨ w.heap.size ≤ z) n s k a.1 a.2 ∧ Chg F w w'
def LvTRel (w : World) (b : Nat) (F : Nat → Prop) (n : Int) (s : Nat) (k : Int) (a : List Nat × Tb) (xs : List Ch) (i : Value) (wr : World) : Prop :=
  ∃ j : Nat, j ≤ xs.length ∧ i = .int .i64 j ∧ Lv wr b (fun z => F z ∨ w.heap.size ≤ z) n s k (lvRun s k n a (xs.take j)).1 (lvRun s k n a (xs.take j)).2 ∧ Chg F w wr

set_option maxHeartbeats 4000000 in
theorem lv_Turn {w : World} {b s m : Nat} {F : Nat → Prop} {n k : Int} {a : List Nat × Tb} {l : List Rt} (H : Lv w b F n s k a.1 a.2) (hI : LvOk s k m a.1 a.2 l) (v : Value) (xs : List Ch) (hR : Rd chgEn 5 w v xs) (ho : ∀ x ∈ xs, x.1.1.ok)
    (hv : ∀ z, v.ownBlock = some z → ¬ F z ∧ z < w.heap.size) (hlen : l.length + xs.length < 50000000) :
    Calls Tryz.prog 8 #[.pointer (some ⟨b, 0, none⟩), v] w (LvTPost w b F n s k (lvRun s k n a xs)) := by
  have HR := hid hR
  have HOK := hid fun (j : Nat) (x : Ch) (h : xs[j]? = some x) => ho x (List.mem_of_getElem? h)
  have HRUN := hid (lvRun_ok hI n xs ho)
  have HV := hid hv
  obtain ⟨A, cap, rfl, hnc, hcm⟩ := hR.form
  unfold maxLen at hcm
  obtain ⟨N, hN⟩ : ∃ N, xs.length = N := ⟨_, rfl⟩
  have HN := hid hN
  have H0 := hid H
  rw [hN] at hnc hlen HV HR ⊢
  have HALL := hid (show xs.take N = xs by rw [← hN, List.take_length])
  clear hR ho hI hN hv H
  go_enter Tryz.func8, Tryz.ntmps8
  go_wp2_with fail
  go_loopw [10] (fun i wr => LvTRel w b F n s k a xs i wr) (fun i _ => N - (intOf i).toNat)
  case atStart => exact ⟨0, Nat.zero_le _, rfl, H0.out.mono fun z _ hz => .inl hz, Chg.refl _ _⟩
  case round =>
    obtain ⟨j, hj, rfl, hL, hC⟩ := hrel
    rw [HN.out] at hj
    have HL := hid hL
    have HC := hid hC
    have HRJ := hid (HRUN.out j (by rw [HN.out]; exact hj))
    by_cases hjn : j < N
    · obtain ⟨x, hx⟩ : ∃ x, xs[j]? = some x := ⟨_, List.getElem?_eq_getElem (by rw [HN.out]; exact hjn)⟩
      obtain ⟨ba, oa, ca, hvv, _, _, la, sa⟩ := (HR.out.chg chgEn_len hC (fun z hz hF => (HV.out z hz).1 hF)).get chgEn_len (by decide) hx
      rw [HN.out] at hvv
      injection hvv with hA hxx hc
      subst hA hc
      have HSN := hid (lvRun_snoc (s := s) (k := k) (n := n) (a := a) hx)
      have hok := HOK.out j x hx
      have HXOK := hid hok
      have z0 : wr.cell? ⟨ba, oa + j * 5, none⟩ = some (.int .u64 (x.1.1.1 : Int)) := sa 0 _ rfl
      have z1 : wr.cell? ⟨ba, oa + j * 5 + 1, none⟩ = some (.int .u64 (x.1.1.2 : Int)) := sa 1 _ rfl
      have z2 : wr.cell? ⟨ba, oa + j * 5 + 2, none⟩ = some (.int .i64 x.1.2) := sa 2 _ rfl
      have z3 : wr.cell? ⟨ba, oa + j * 5 + 3, none⟩ = some (.int .i64 x.2.1) := sa 3 _ rfl
      have z4 : wr.cell? ⟨ba, oa + j * 5 + 4, none⟩ = some (.int .i64 x.2.2) := sa 4 _ rfl
      generalize lvRun s k n a (xs.take j) = aj at *
      have hkl := HRJ.out.1.rep.len
      have hkl2 := HRJ.out.2
      obtain ⟨⟨⟨x1, x2⟩, x3⟩, x4, x5⟩ := x
      simp only at z0 z1 z2 z3 z4
      have hj0 : (0 : Int) ≤ (j : Int) := by omega
      have hj1 : (j : Int) < (N : Int) := by omega
      have hb5 := (Below.refl wr.heap.size wr).alloc (Nat.le_refl _) (.cells #[.int .u64 (x1 : Int), .int .u64 (x2 : Int), .int .i64 x3, .int .i64 x4, .int .i64 x5] 40)
      have HX5 := hid (Blk.new_at wr #[.int .u64 (x1 : Int), .int .u64 (x2 : Int), .int .i64 x3, .int .i64 x4, .int .i64 x5] 40 wr.heap.size rfl)
      have hL5 := HL.out.below hb5
      have HC5 := hid (HC.out.trans' (Chg.of_below hb5 F))
      have HL5 := hid hL5
      obtain ⟨f, g, FF, TF, hQ⟩ := HL5.out
      have HQT := hid hQ.top
      have hsz5 := hb5.size
      clear hL hC hx hxx sa hok hb5 hL5 HL HC hQ
      go_wp2_with fail
      generalize wr.alloc (.cells #[.int .u64 (x1 : Int), .int .u64 (x2 : Int), .int .i64 x3, .int .i64 x4, .int .i64 x5] 40) = w5 at *
      refine wp_region_later (fun w' => w'.cell? ⟨b, 0, none⟩ = some (.int .i64 n) ∧ w'.cell? ⟨wr.heap.size, 2, none⟩ = some (.int .i64 x3)) (fun z => ⟨z.cell (HQT.out.cellv rfl), z.cell (HX5.out.cellv rfl)⟩) (by kernel_rfl) (by kernel_rfl) (fun HS => ?_)
      repeat (go_big_quiet_step (fail))
      refine wpQuiet_nil ?_
      rintro w6 ⟨⟨_, hb6⟩, rfl⟩
      have HL6 := hid (HL5.out.below hb6)
      have HC6 := hid (HC5.out.trans' (Chg.of_below hb6 F))
      have hX6 := HX5.out.below' hb6
      have y0 := hX6.cellv (i := 0) rfl
      have y1 := hX6.cellv (i := 1) rfl
      have y2 := hX6.cellv (i := 2) rfl
      have y3 := hX6.cellv (i := 3) rfl
      have y4 := hX6.cellv (i := 4) rfl
      have hsz6 := hb6.size
      clear hb6 HS HL5 HC5 HX5 HQT hX6 z0 z1 z2 z3 z4
      by_cases hxn : x3 = n
      · have HST := hid (show lvS s k n aj (((x1, x2), x3), x4, x5) = (lvC s k aj.1 aj.2 ((x1, x2), x3) x5, lvT aj.2 ((x1, x2), x3) x5) from if_pos hxn)
        have cT := hid (lv_turn HL6.out HRJ.out.1.ok (by omega) ((x1, x2), x3) HXOK.out x4 x5)
        unfold LvPost at cT
        subst hxn
        go_wp2_with fail
        refine cT.out.mono ?_
        rintro _ w7 ⟨rfl, hL7, hC7⟩
        have hs7 := hC7.size
        have hsw := HC6.out.size
        have HL7 := hid (hL7.mono (G := fun z => F z ∨ w.heap.size ≤ z) fun z _ hz => by
          rcases hz with hz | hz
          · exact hz
          · exact .inr (by omega))
        have HC7 := hid (HC6.out.trans hC7 (fun z hz h => by
          rcases h with h | h
          · exact h
          · omega))
        clear hL7 hC7 cT y0 y1 y2 y3 y4 HL6 HC6
        go_wp2_with fail
        go_roundw
        case rel => exact ⟨j + 1, by rw [HN.out]; omega, by go_num, by rw [HSN.out, HST.out]; exact HL7.out, HC7.out⟩
        case measure => simp [intOf]; omega
      · have HST := hid (show lvS s k n aj (((x1, x2), x3), x4, x5) = aj from if_neg hxn)
        go_wp2_with fail
        go_roundw
        case rel => exact ⟨j + 1, by rw [HN.out]; omega, by go_num, by rw [HSN.out, HST.out]; exact HL6.out, HC6.out⟩
        case measure => simp [intOf]; omega
    · have hjn' : j = N := by omega
      subst hjn'
      rw [HALL.out] at hL
      have HL2 := hid hL
      clear hL hC
      go_wp2_with fail
      go_returns
      exact ⟨rfl, HL2.out, HC.out⟩
/-! ### Looking -/
set_option maxHeartbeats 4000000 in
theorem lv_look {w : World} {b s n m : Nat} {F : Nat → Prop} {k : Int} {c : List Nat} {t : Tb} {l : List Rt} (H0 : Lv w b F (n : Int) s k c t) (hI : LvOk s k m c t l) (hm : 0 < m) (hn : n ≤ 128) (hlen : l.length < 50000000) (a : Ad) (ha : a.ok) :
    Calls Tryz.prog 10 #[.pointer (some ⟨b, 0, none⟩), .agg #[.int .u64 (a.1 : Int), .int .u64 (a.2 : Int)]] w fun e w' =>
      e = .returned (.tuple #[.int .i64 (valT t (a.cut n, (n : Int))), .bool (hasT t (a.cut n, (n : Int))), .bool (mayB (placesN s (a.cut n, (n : Int)) k (m : Int)) c)]) ∧ Below w.heap.size w w' := by
  have HMAY := hid (fun h => hI.may hm (p := (a.cut n, (n : Int))) h)
  have HV0 := hid (fun h => hI.val0 (p := (a.cut n, (n : Int))) h)
  have hcl := hI.trk.len
  have hkl := hI.rep.len
  have hsl := st_le t
  have HOK := hid hI.ok
  have hao := Ad.cut_ok ha n
  have HAO := hid hao
  obtain ⟨B, hB⟩ : ∃ B, mayB (placesN s (a.cut n, (n : Int)) k (m : Int)) c = B := ⟨_, rfl⟩
  have HB0 := hid hB
  rw [hB] at HMAY ⊢
  have cC := hid (fun w => addr_cutN a ha n hn _ rfl w)
  have hst8 : t.st.length ≤ 100000000 := by omega
  have HGET := hid (fun (w' : World) (g : Nat) (TF : Nat → Prop) (h : TwF w' g TF t) => ck_get h HOK.out hst8 (a.cut n, (n : Int)) HAO.out)
  have HFM := hid (fun (w' : World) (f : Nat) (FF : Nat → Prop) (h : Flt w' f FF s k c) => filter_may h (a.cut n, (n : Int)) HAO.out B (by rw [hcl]; exact HB0.out))
  unfold CkGet at HGET
  generalize valT t (a.cut n, (n : Int)) = VV at *
  generalize hasT t (a.cut n, (n : Int)) = HH at *
  generalize atT t (a.cut n, (n : Int)) = AA at *
  generalize a.cut n = ac at *
  have hb := (Below.refl w.heap.size w).alloc (Nat.le_refl _) (.cells #[.int .u64 (a.1 : Int), .int .u64 (a.2 : Int)] 36)
  have HA := hid (Blk.new_at w #[.int .u64 (a.1 : Int), .int .u64 (a.2 : Int)] 36 w.heap.size rfl)
  have HL := hid (H0.below hb)
  have HB := hid hb
  obtain ⟨f, g, FF, TF, hQ⟩ := HL.out
  have HT := hid hQ.top
  have HQ := hid hQ
  have hs0 := hb.size
  clear hI hB hao hb hQ H0 ha
  obtain ⟨a1, a2⟩ := a
  obtain ⟨c1, c2⟩ := ac
  simp only at HA cC HGET HFM
  go_enter Tryz.func10, Tryz.ntmps10
  go_wp2_with fail
  generalize w.alloc (.cells #[.int .u64 (a1 : Int), .int .u64 (a2 : Int)] 36) = w0 at *
  have y0 := HT.out.cellv (i := 0) rfl
  have x0 := HA.out.cellv (i := 0) rfl
  have x1 := HA.out.cellv (i := 1) rfl
  have hlb := HT.out.lt
  have hla := HA.out.lt
  have e3 := World.new_ne w0 _ y0
  have e4 := World.new_ne w0 _ x0
  go_region_held3 (fun w' => w'.cell? ⟨b, 0, none⟩ = some (.int .i64 (n : Int)) ∧ w'.cell? ⟨w.heap.size, 0, none⟩ = some (.int .u64 (a1 : Int)) ∧ w'.cell? ⟨w.heap.size, 1, none⟩ = some (.int .u64 (a2 : Int))) (first | go_keep | ((try dsimp only); (refine ⟨?_, ?_, ?_⟩ <;> first | assumption | go_keep)))
    (first
      | (with_reducible refine (cC.out _).mono ?_
         rintro _ w4 ⟨rfl, hb4'⟩
         have hb4 : Below w0.heap.size w0 w4 := by first | exact (Below.refl w0.heap.size w0).drew.trans hb4' | exact ((Below.refl w0.heap.size w0).drew.alloc (Nat.le_refl _) _).trans (hb4'.mono (by simp)) | exact hb4'
         try (have hn0 := (Blk.new_at w0.drew #[.int .u64 0, .int .u64 0, .int .i64 0] 38 w0.heap.size rfl).below' hb4')
         try (have n0 := hn0.cellv (i := 0) rfl; have n1 := hn0.cellv (i := 1) rfl; have n2 := hn0.cellv (i := 2) rfl; have n3 := hn0.frozen 0; have n4 := hn0.frozen 1; have n5 := hn0.frozen 2)
         have y0 := (hb4.cell (p := ⟨b, 0, none⟩) hlb).trans y0
         have x0 := (hb4.cell (p := ⟨w.heap.size, 0, none⟩) hla).trans x0
         have x1 := (hb4.cell (p := ⟨w.heap.size, 1, none⟩) hla).trans x1
         have e1 := World.new_ne w4 _ y0
         have e2 := World.new_ne w4 _ x0
         have HB4 := hid hb4))
  all_goals
    go_wp2_with fail
    refine gen_w (fun W hW => ?_)
    have hBW : Below w0.heap.size w0 W := by
      rw [hW]
      first
        | exact HB4.out.alloc HB4.out.size _
        | exact ((HB4.out.setCell (Nat.le_refl _) _).setCell (Nat.le_refl _) _).setCell (Nat.le_refl _) _
    first
      | (have hK : Blk W w4.heap.size 38 [.int .u64 (c1 : Int), .int .u64 (c2 : Int), .int .i64 (n : Int)] := by rw [hW]; exact Blk.new w4 [.int .u64 (c1 : Int), .int .u64 (c2 : Int), .int .i64 (n : Int)] 38
         obtain ⟨kb, hkb⟩ : ∃ kb, w4.heap.size = kb := ⟨_, rfl⟩
         rw [hkb] at hK ⊢
         clear hkb)
      | (have hK : Blk W w0.heap.size 38 [.int .u64 (c1 : Int), .int .u64 (c2 : Int), .int .i64 (n : Int)] := by rw [hW]; exact ((hn0.set 0 (.int .u64 (c1 : Int))).set 1 (.int .u64 (c2 : Int))).set 2 (.int .i64 (n : Int))
         obtain ⟨kb, hkb⟩ : ∃ kb, w0.heap.size = kb := ⟨_, rfl⟩
         rw [hkb] at hK ⊢
         clear hkb)
    have HQW := hid (HQ.out.below hBW)
    have HBW := hid (held_next HB.out hBW)
    have HKW := hid hK
    have HTW := hid HQW.out.top
    clear hW hK hBW HB4 hb4 hb4' y0 x0 x1 e1 e2
    try clear n0 n1 n2 n3 n4 n5
    try clear hn0
    have cM := hid fun (w' : World) (h : Below W.heap.size W w') => HFM.out w' f FF (HQW.out.below h).flt
    cases B
    · go_wp2_with fail
      refine wp_region_later (fun w' => w'.cell? ⟨b, 1, none⟩ = some (.pointer (some ⟨f, 0, none⟩)) ∧ w'.cell? ⟨kb, 0, none⟩ = some (.int .u64 (c1 : Int)) ∧ w'.cell? ⟨kb, 1, none⟩ = some (.int .u64 (c2 : Int)) ∧ w'.cell? ⟨kb, 2, none⟩ = some (.int .i64 (n : Int)))
        (fun z => ⟨z.cell (HTW.out.cellv rfl), z.cell (HKW.out.cellv rfl), z.cell (HKW.out.cellv rfl), z.cell (HKW.out.cellv rfl)⟩) (by kernel_rfl) (by kernel_rfl) (fun HS => ?_)
      repeat (go_big_quiet_step (with_reducible exact Later.calls _ (cM.out _ (Later.below _))))
      refine wpQuiet_nil ?_
      rintro w5 ⟨⟨_, hb5⟩, rfl⟩
      have HB5 := hid (held_next HBW.out hb5)
      clear hb5 HS cM
      have hhh : HH = false := by
        cases HH
        · rfl
        · exact absurd (HMAY.out rfl) (by decide)
      have hvv := HV0.out hhh
      subst hhh
      go_wp2_with fail
      go_returns
      exact ⟨rfl, HB5.out⟩
    · go_wp2_with fail
      refine wp_region_later (fun w' => w'.cell? ⟨b, 1, none⟩ = some (.pointer (some ⟨f, 0, none⟩)) ∧ w'.cell? ⟨kb, 0, none⟩ = some (.int .u64 (c1 : Int)) ∧ w'.cell? ⟨kb, 1, none⟩ = some (.int .u64 (c2 : Int)) ∧ w'.cell? ⟨kb, 2, none⟩ = some (.int .i64 (n : Int)))
        (fun z => ⟨z.cell (HTW.out.cellv rfl), z.cell (HKW.out.cellv rfl), z.cell (HKW.out.cellv rfl), z.cell (HKW.out.cellv rfl)⟩) (by kernel_rfl) (by kernel_rfl) (fun HS => ?_)
      repeat (go_big_quiet_step (with_reducible exact Later.calls _ (cM.out _ (Later.below _))))
      refine wpQuiet_nil ?_
      rintro w5 ⟨⟨_, hb5⟩, rfl⟩
      have HB5 := hid (held_next HBW.out hb5)
      have HQ5 := hid (HQW.out.below hb5)
      have HK5 := hid (HKW.out.below' hb5)
      clear hb5 HS cM HQW HKW HTW HBW
      have cG := hid (HGET.out w5.drew g TF (HQ5.out.below (Below.refl w5.heap.size w5).drew).tab)
      have y2 := HQ5.out.top.cellv (i := 2) rfl
      have k0 := HK5.out.cellv (i := 0) rfl
      have k1 := HK5.out.cellv (i := 1) rfl
      have k2 := HK5.out.cellv (i := 2) rfl
      have hlb5 := HQ5.out.top.lt
      have hlk5 := HK5.out.lt
      go_wp2_with fail
      go_region_held3 (fun w' => w'.cell? ⟨b, 2, none⟩ = some (.pointer (some ⟨g, 0, none⟩)) ∧ w'.cell? ⟨kb, 0, none⟩ = some (.int .u64 (c1 : Int)) ∧ w'.cell? ⟨kb, 1, none⟩ = some (.int .u64 (c2 : Int)) ∧ w'.cell? ⟨kb, 2, none⟩ = some (.int .i64 (n : Int))) (first | go_keep | (refine ⟨?_, ?_, ?_, ?_⟩ <;> assumption))
        (first
          | (with_reducible refine cG.out.mono ?_
             rintro _ w6 ⟨u6, rfl, hU6, hb6'⟩
             have hb6 : Below w5.heap.size w5 w6 := (Below.refl w5.heap.size w5).drew.trans hb6'
             obtain ⟨Au, cu, hu, _, _, _⟩ := Owns.form hU6
             subst hu
             have y2 := (hb6.cell (p := ⟨b, 2, none⟩) hlb5).trans y2
             have k0 := (hb6.cell (p := ⟨kb, 0, none⟩) hlk5).trans k0
             have k1 := (hb6.cell (p := ⟨kb, 1, none⟩) hlk5).trans k1
             have k2 := (hb6.cell (p := ⟨kb, 2, none⟩) hlk5).trans k2))
      have HB6 := hid (held_next HB5.out hb6)
      clear y2 k0 k1 k2 hb6 hb6' hU6 cG HQ5 HK5
      go_wp2_with fail
      go_returns
      exact ⟨rfl, HB6.out⟩

theorem lv_bits {w : World} {b s : Nat} {F : Nat → Prop} {n k : Int} {c : List Nat} {t : Tb} (H0 : Lv w b F n s k c t) :
    Calls Tryz.prog 15 #[.pointer (some ⟨b, 0, none⟩)] w fun e w' => e = .returned (.int .i64 n) ∧ w = w' := by
  obtain ⟨f, g, FF, TF, hQ⟩ := H0
  have y0 := hQ.top.cellv (i := 0) rfl
  clear hQ
  go_enter Tryz.func15, Tryz.ntmps15
  go_wp2_with fail
  go_ret
  exact ⟨rfl, rfl⟩
theorem lv_keys {w : World} {b s m : Nat} {F : Nat → Prop} {n k : Int} {c : List Nat} {t : Tb} {l : List Rt} (H0 : Lv w b F n s k c t) (hI : LvOk s k m c t l) (hlen : l.length ≤ 100000000) :
    Calls Tryz.prog 13 #[.pointer (some ⟨b, 0, none⟩)] w (RetRts w l) := by
  obtain ⟨f, g, FF, TF, hQ⟩ := H0
  have cA := hid (ck_all hQ.tab hI.ok (by rw [hI.rep.len]; exact hlen) l hI.rep)
  have y2 := hQ.top.cellv (i := 2) rfl
  clear hQ hI
  go_enter Tryz.func13, Tryz.ntmps13
  go_wp2_with fail
  refine cA.out.mono ?_
  rintro _ w1 ⟨u, rfl, hU, hb1⟩
  have HU := hid hU
  have HB := hid hb1
  obtain ⟨A, cap, hu⟩ := hU.form
  subst hu
  clear hU hb1 cA y2
  go_wp2_with fail
  go_ret
  exact ⟨_, rfl, HU.out, HB.out⟩

/-! ### Making one -/
def LvNew (w : World) (n : Int) (s : Nat) (k : Int) (m nb : Nat) (e : Ending) (w' : World) : Prop :=
  ∃ (b : Nat) (F : Nat → Prop), e = .returned (.tuple #[.pointer (some ⟨b, 0, none⟩), .int .i64 0]) ∧ Lv w' b F n s k (List.replicate m 0) (newT (mixN s) nb) ∧ (∀ z, F z → w.heap.size ≤ z) ∧ Below w.heap.size w w'
theorem lv_new (w : World) (n : Int) (s : Nat) (hs : s < 2 ^ 64) (k : Int) (m nb : Nat) (hn1 : 1 ≤ n) (hn2 : n ≤ 128) (h1 : 1 ≤ k) (h2 : k ≤ 16) (h3 : 1 ≤ m) (h4 : m ≤ 65536) (h5 : 1 ≤ nb) (h6 : nb ≤ 65536) :
    Calls Tryz.prog 5 #[.int .i64 n, .int .u64 (s : Int), .int .i64 k, .int .i64 (m : Int), .int .i64 (nb : Int)] w (LvNew w n s k m nb) := by
  have cF := hid (filter_new s hs k m h1 h2 h3 h4 w)
  have cT := hid (fun w => ck_new w (mixN s) nb h5 h6)
  have cM := hid (fun w => mix s w)
  have d1 : ¬ n < 1 := by omega
  have d2 : ¬ 128 < n := by omega
  unfold FNewPost at cF
  unfold LvNew
  generalize newT (mixN s) nb = t0 at *
  generalize List.replicate m 0 = c0 at *
  go_enter Tryz.func5, Tryz.ntmps5
  go_wp2_with fail
  refine cF.out.mono ?_
  rintro _ w1 ⟨f, FF, rfl, hF, hFF, hb1⟩
  have HF := hid hF
  have HFF := hid hFF
  have HB1 := hid hb1
  clear hF hFF hb1 cF
  go_wp2_with fail
  refine (cM.out _).mono ?_
  rintro _ w2 ⟨rfl, rfl⟩
  go_wp2_with fail
  refine (cT.out _).mono ?_
  rintro _ w2 ⟨g, rfl, hg, hb2, q, hT, hq⟩
  have HT := hid hT
  have HB2 := hid hb2
  have hlg := hT.top.lt
  have hlq := hT.bk.lt
  have hs1 := HB1.out.size
  clear hT hb2 cT
  go_wp2_with fail
  go_ret2
  have hb3 := (Below.refl w2.heap.size w2).alloc (Nat.le_refl _) (.cells #[.int .i64 n, .pointer (some ⟨f, 0, none⟩), .pointer (some ⟨g, 0, none⟩)] 63)
  refine ⟨w2.heap.size, fun z => w.heap.size ≤ z, rfl, ⟨f, g, FF, fun z => z = g ∨ z = q, ⟨Blk.new w2 [.int .i64 n, .pointer (some ⟨f, 0, none⟩), .pointer (some ⟨g, 0, none⟩)] 63, (HF.out.below HB2.out).below hb3, ⟨q, _, HT.out.below hb3, .inl rfl, .inr rfl, fun z hz => by simp [Value.ownBlock] at hz⟩, fun z hz => ?_, fun z hz => ?_, ?_⟩⟩, fun z hz => hz, held_next (held_next HB1.out HB2.out) hb3⟩
  · have h1 := HFF.out z hz
    have h2 := HB2.out.size
    have h3 := hb3.size
    exact ⟨by omega, h1.1, by omega, by omega⟩
  · have h3 := hb3.size
    have h4 : w2.heap.size < (w2.alloc (.cells #[.int .i64 n, .pointer (some ⟨f, 0, none⟩), .pointer (some ⟨g, 0, none⟩)] 63)).heap.size := by simp
    exact ⟨by omega, by omega, by omega⟩
  · have h2 := HB2.out.size
    show w.heap.size ≤ w2.heap.size
    omega
theorem lv_new_no (w : World) (n : Int) (s : Nat) (k m nb : Int) (h : n < 1 ∨ 128 < n) :
    Calls Tryz.prog 5 #[.int .i64 n, .int .u64 (s : Int), .int .i64 k, .int .i64 m, .int .i64 nb] w fun e w' => e = .returned (.tuple #[.pointer none, .int .i64 1]) ∧ Below w.heap.size w w' := by
  have h' : n < 1 ∨ ¬ n < 1 ∧ 128 < n := by omega
  clear h
  rcases h' with h | ⟨h2, h⟩
  all_goals
    go_enter Tryz.func5, Tryz.ntmps5
    go_wp2_with fail
    go_ret2
    exact ⟨rfl, Below.refl _ _⟩


end Go.Proofs.YtpjjijhojcfmnaaGreat
