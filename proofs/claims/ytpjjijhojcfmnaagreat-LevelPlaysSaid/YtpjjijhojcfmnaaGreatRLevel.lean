/-
  The document's level in the heap: making one, turning keys, looking. No condition but that words are words, and that there are no more than some ninety thousand keys.
-/
import Derived.Test.YtpjjijhojcfmnaaGreatFilRef
import Derived.Test.YtpjjijhojcfmnaaGreatLevel2
import Derived.Test.YtpjjijhojcfmnaaGreatRTab6
namespace Go.Proofs.YtpjjijhojcfmnaaGreat
open Go.RowKit
set_option linter.unusedVariables false
set_option linter.unusedSimpArgs false
set_option maxRecDepth 100000

/-- The document's filter in blocks of a kind. -/
def RF (w : World) (f : Nat) (FF : Nat → Prop) (s : Nat) (k : Int) (c : List Nat) : Prop := ∃ q, RFlt w f q s k c ∧ FF f ∧ FF q
theorem RF.chg {w w' : World} {f s : Nat} {FF S : Nat → Prop} {k : Int} {c : List Nat} (h : RF w f FF s k c) (hc : Chg S w w') (hS : ∀ z, FF z → ¬ S z) : RF w' f FF s k c := let ⟨q, h, h1, h2⟩ := h; ⟨q, h.chg hc (hS _ h1) (hS _ h2), h1, h2⟩
theorem RF.below {w w' : World} {f s : Nat} {FF : Nat → Prop} {k : Int} {c : List Nat} (h : RF w f FF s k c) (hb : Below w.heap.size w w') : RF w' f FF s k c := let ⟨q, h, h1, h2⟩ := h; ⟨q, h.below hb, h1, h2⟩
def RFPost (w : World) (f : Nat) (FF : Nat → Prop) (s : Nat) (k : Int) (c' : List Nat) (e : Ending) (w' : World) : Prop := e = .returned (.tuple #[]) ∧ RF w' f FF s k c' ∧ Chg FF w w'
theorem rf_add {w : World} {f s : Nat} {FF : Nat → Prop} {k : Int} {c : List Nat} (h : RF w f FF s k c) (p : Pf) (hp : p.1.ok) :
    Calls Tryz.prog 25 #[.pointer (some ⟨f, 0, none⟩), .agg #[.int .u64 (p.1.1 : Int), .int .u64 (p.1.2 : Int), .int .i64 p.2]] w (RFPost w f FF s k (addC (placesN s p k c.length) c)) := by
  obtain ⟨q, h, h1, h2⟩ := h
  refine (ref_fadd h p hp).mono ?_
  rintro e w' ⟨he, hr, hc⟩
  exact ⟨he, ⟨q, hr, h1, h2⟩, hc.mono fun i _ hi => by subst hi; exact h2⟩
theorem rf_remove {w : World} {f s : Nat} {FF : Nat → Prop} {k : Int} {c : List Nat} (h : RF w f FF s k c) (p : Pf) (hp : p.1.ok) :
    Calls Tryz.prog 27 #[.pointer (some ⟨f, 0, none⟩), .agg #[.int .u64 (p.1.1 : Int), .int .u64 (p.1.2 : Int), .int .i64 p.2]] w (RFPost w f FF s k (remC (placesN s p k c.length) c)) := by
  obtain ⟨q, h, h1, h2⟩ := h
  refine (ref_fremove h p hp).mono ?_
  rintro e w' ⟨he, hr, hc⟩
  exact ⟨he, ⟨q, hr, h1, h2⟩, hc.mono fun i _ hi => by subst hi; exact h2⟩
theorem rf_may {w : World} {f s : Nat} {FF : Nat → Prop} {k : Int} {c : List Nat} (h : RF w f FF s k c) (p : Pf) (hp : p.1.ok) (B : Bool) (hB : mayB (placesN s p k c.length) c = B) :
    Calls Tryz.prog 32 #[.pointer (some ⟨f, 0, none⟩), .agg #[.int .u64 (p.1.1 : Int), .int .u64 (p.1.2 : Int), .int .i64 p.2]] w fun e w' => e = .returned (.bool B) ∧ Below w.heap.size w w' := by
  obtain ⟨q, h, _, _⟩ := h
  exact ref_fmay h p hp B hB

structure RLvQ (w : World) (b f g : Nat) (FF TF F : Nat → Prop) (n : Int) (s : Nat) (k : Int) (c : List Nat) (t : Tb) : Prop where
  top : Blk w b 52 [.int .i64 n, .pointer (some ⟨f, 0, none⟩), .pointer (some ⟨g, 0, none⟩)]
  flt : RF w f FF s k c
  tab : RwF w g TF t
  ff : ∀ z, FF z → z < w.heap.size ∧ F z ∧ z ≠ b ∧ ¬ TF z
  tf : ∀ z, TF z → z < w.heap.size ∧ F z ∧ z ≠ b
  fb : F b
def RLv (w : World) (b : Nat) (F : Nat → Prop) (n : Int) (s : Nat) (k : Int) (c : List Nat) (t : Tb) : Prop := ∃ f g FF TF, RLvQ w b f g FF TF F n s k c t
theorem RLvQ.below {w w' : World} {b f g s : Nat} {FF TF F : Nat → Prop} {n k : Int} {c : List Nat} {t : Tb} (h : RLvQ w b f g FF TF F n s k c t) (hb : Below w.heap.size w w') : RLvQ w' b f g FF TF F n s k c t :=
  ⟨h.top.below' hb, h.flt.below hb, h.tab.below hb, fun z hz => ⟨Nat.lt_of_lt_of_le (h.ff z hz).1 hb.size, (h.ff z hz).2⟩, fun z hz => ⟨Nat.lt_of_lt_of_le (h.tf z hz).1 hb.size, (h.tf z hz).2⟩, h.fb⟩
theorem RLvQ.mono {w : World} {b f g s : Nat} {FF TF F G : Nat → Prop} {n k : Int} {c : List Nat} {t : Tb} (h : RLvQ w b f g FF TF F n s k c t) (hs : ∀ z, z < w.heap.size → F z → G z) : RLvQ w b f g FF TF G n s k c t :=
  ⟨h.top, h.flt, h.tab, fun z hz => ⟨(h.ff z hz).1, hs z (h.ff z hz).1 (h.ff z hz).2.1, (h.ff z hz).2.2⟩, fun z hz => ⟨(h.tf z hz).1, hs z (h.tf z hz).1 (h.tf z hz).2.1, (h.tf z hz).2.2⟩, hs b h.top.lt h.fb⟩
theorem RLvQ.chg {w w' : World} {b f g s : Nat} {FF TF F S : Nat → Prop} {n k : Int} {c : List Nat} {t : Tb} (h : RLvQ w b f g FF TF F n s k c t) (hc : Chg S w w') (hS : ∀ z, z < w.heap.size → F z → ¬ S z) : RLvQ w' b f g FF TF F n s k c t :=
  ⟨h.top.chg hc (hS b h.top.lt h.fb), h.flt.chg hc (fun z hz => hS z (h.ff z hz).1 (h.ff z hz).2.1), h.tab.chg hc (fun z _ hz => hS z (h.tf z hz).1 (h.tf z hz).2.1),
    fun z hz => ⟨Nat.lt_of_lt_of_le (h.ff z hz).1 hc.size, (h.ff z hz).2⟩, fun z hz => ⟨Nat.lt_of_lt_of_le (h.tf z hz).1 hc.size, (h.tf z hz).2⟩, h.fb⟩
theorem RLv.below {w w' : World} {b s : Nat} {F : Nat → Prop} {n k : Int} {c : List Nat} {t : Tb} (h : RLv w b F n s k c t) (hb : Below w.heap.size w w') : RLv w' b F n s k c t := let ⟨f, g, A, B, h⟩ := h; ⟨f, g, A, B, h.below hb⟩
theorem RLv.mono {w : World} {b s : Nat} {F G : Nat → Prop} {n k : Int} {c : List Nat} {t : Tb} (h : RLv w b F n s k c t) (hs : ∀ z, z < w.heap.size → F z → G z) : RLv w b G n s k c t := let ⟨f, g, A, B, h⟩ := h; ⟨f, g, A, B, h.mono hs⟩
theorem RLv.chg {w w' : World} {b s : Nat} {F S : Nat → Prop} {n k : Int} {c : List Nat} {t : Tb} (h : RLv w b F n s k c t) (hc : Chg S w w') (hS : ∀ z, z < w.heap.size → F z → ¬ S z) : RLv w' b F n s k c t := let ⟨f, g, A, B, h⟩ := h; ⟨f, g, A, B, h.chg hc hS⟩
/-- Behind the filter's turn. -/
theorem RLvQ.turnF {w w' : World} {b f g s : Nat} {FF TF F : Nat → Prop} {n k : Int} {c c' : List Nat} {t : Tb} (h : RLvQ w b f g FF TF F n s k c t) (hf : RF w' f FF s k c') (hc : Chg FF w w') : RLvQ w' b f g FF TF F n s k c' t :=
  ⟨h.top.chg hc (fun hz => (h.ff b hz).2.2.1 rfl), hf, h.tab.chg hc (fun z _ hz hz2 => (h.ff z hz2).2.2.2 hz),
    fun z hz => ⟨Nat.lt_of_lt_of_le (h.ff z hz).1 hc.size, (h.ff z hz).2⟩, fun z hz => ⟨Nat.lt_of_lt_of_le (h.tf z hz).1 hc.size, (h.tf z hz).2⟩, h.fb⟩
/-- Behind the table's turn. -/
theorem RLvQ.turnT {w w' : World} {b f g s : Nat} {FF TF F : Nat → Prop} {n k : Int} {c : List Nat} {t t' : Tb} (h : RLvQ w b f g FF TF F n s k c t) (ht : RwF w' g (fun z => TF z ∨ w.heap.size ≤ z) t') (hc : Chg TF w w') :
    RLvQ w' b f g FF (fun z => (TF z ∨ w.heap.size ≤ z) ∧ z < w'.heap.size) (fun z => F z ∨ w.heap.size ≤ z) n s k c t' :=
  ⟨h.top.chg hc (fun hz => (h.tf b hz).2.2 rfl), h.flt.chg hc (fun z hz hz2 => (h.ff z hz).2.2.2 hz2), ht.mono (fun z hz k => ⟨k, hz⟩),
    fun z hz => ⟨Nat.lt_of_lt_of_le (h.ff z hz).1 hc.size, .inl (h.ff z hz).2.1, (h.ff z hz).2.2.1, fun k => by
      rcases k.1 with k1 | k1
      · exact (h.ff z hz).2.2.2 k1
      · have := (h.ff z hz).1; omega⟩,
    fun z hz => ⟨hz.2, by rcases hz.1 with k | k; exact .inl (h.tf z k).2.1; exact .inr k, by
      rcases hz.1 with k | k
      · exact (h.tf z k).2.2
      · have := h.top.lt; omega⟩, .inl h.fb⟩
/-! ### Looking -/
set_option maxHeartbeats 4000000 in
theorem rlv_look {w : World} {b s n m : Nat} {F : Nat → Prop} {k : Int} {c : List Nat} {t : Tb} {l : List Rt} (H0 : RLv w b F (n : Int) s k c t) (hI : LvOk s k m c t l) (hm : 0 < m) (hn : n ≤ 128) (hlen : l.length < 50000000) (a : Ad) (ha : a.ok) :
    Calls Tryz.prog 11 #[.pointer (some ⟨b, 0, none⟩), .agg #[.int .u64 (a.1 : Int), .int .u64 (a.2 : Int)]] w fun e w' =>
      e = .returned (.tuple #[.int .i64 (valT t (a.cut n, (n : Int))), .bool (hasT t (a.cut n, (n : Int))), .bool (mayB (placesN s (a.cut n, (n : Int)) k (m : Int)) c)]) ∧ Below w.heap.size w w' := by
  have HMAY := hid (fun h => hI.may hm (p := (a.cut n, (n : Int))) h)
  have HV0 := hid (fun h => hI.val0 (p := (a.cut n, (n : Int))) h)
  have hcl := hI.trk.len
  have hkl := hI.rep.len
  have hsl := st_le t
  have HOK := hid hI.ok
  have hao := Ad.cut_ok ha n
  have HAO := hid hao
  obtain ⟨B, hB⟩ : ∃ B, mayB (placesN s (a.cut n, (n : Int)) k (m : Int)) c = B := ⟨_, rfl⟩
  have HB0 := hid hB
  rw [hB] at HMAY ⊢
  have cC := hid (fun w => ref_cutN a ha n hn _ rfl w)
  have hst8 : t.st.length ≤ 100000000 := by omega
  have HGET := hid (fun (w' : World) (g : Nat) (TF : Nat → Prop) (h : RwF w' g TF t) => rk_get h HOK.out (a.cut n, (n : Int)) HAO.out)
  have HFM := hid (fun (w' : World) (f : Nat) (FF : Nat → Prop) (h : RF w' f FF s k c) => rf_may h (a.cut n, (n : Int)) HAO.out B (by rw [hcl]; exact HB0.out))
  unfold CkGet at HGET
  generalize valT t (a.cut n, (n : Int)) = VV at *
  generalize hasT t (a.cut n, (n : Int)) = HH at *
  generalize atT t (a.cut n, (n : Int)) = AA at *
  generalize a.cut n = ac at *
  have hb := (Below.refl w.heap.size w).alloc (Nat.le_refl _) (.cells #[.int .u64 (a.1 : Int), .int .u64 (a.2 : Int)] 36)
  have HA := hid (Blk.new_at w #[.int .u64 (a.1 : Int), .int .u64 (a.2 : Int)] 36 w.heap.size rfl)
  have HL := hid (H0.below hb)
  have HB := hid hb
  obtain ⟨f, g, FF, TF, hQ⟩ := HL.out
  have HT := hid hQ.top
  have HQ := hid hQ
  have hs0 := hb.size
  clear hI hB hao hb hQ H0 ha
  obtain ⟨a1, a2⟩ := a
  obtain ⟨c1, c2⟩ := ac
  simp only at HA cC HGET HFM
  go_enter Tryz.func11, Tryz.ntmps11
  go_wp2_with fail
  generalize w.alloc (.cells #[.int .u64 (a1 : Int), .int .u64 (a2 : Int)] 36) = w0 at *
  have y0 := HT.out.cellv (i := 0) rfl
  have x0 := HA.out.cellv (i := 0) rfl
  have x1 := HA.out.cellv (i := 1) rfl
  have hlb := HT.out.lt
  have hla := HA.out.lt
  have e3 := World.new_ne w0 _ y0
  have e4 := World.new_ne w0 _ x0
  go_region_held3 (fun w' => w'.cell? ⟨b, 0, none⟩ = some (.int .i64 (n : Int)) ∧ w'.cell? ⟨w.heap.size, 0, none⟩ = some (.int .u64 (a1 : Int)) ∧ w'.cell? ⟨w.heap.size, 1, none⟩ = some (.int .u64 (a2 : Int))) (first | go_keep | ((try dsimp only); (refine ⟨?_, ?_, ?_⟩ <;> first | assumption | go_keep)))
    (first
      | (with_reducible refine (cC.out _).mono ?_
         rintro _ w4 ⟨rfl, hb4'⟩
         have hb4 : Below w0.heap.size w0 w4 := by first | exact (Below.refl w0.heap.size w0).drew.trans hb4' | exact ((Below.refl w0.heap.size w0).drew.alloc (Nat.le_refl _) _).trans (hb4'.mono (by simp)) | exact hb4'
         try (have hn0 := (Blk.new_at w0.drew #[.int .u64 0, .int .u64 0, .int .i64 0] 38 w0.heap.size rfl).below' hb4')
         try (have n0 := hn0.cellv (i := 0) rfl; have n1 := hn0.cellv (i := 1) rfl; have n2 := hn0.cellv (i := 2) rfl; have n3 := hn0.frozen 0; have n4 := hn0.frozen 1; have n5 := hn0.frozen 2)
         have y0 := (hb4.cell (p := ⟨b, 0, none⟩) hlb).trans y0
         have x0 := (hb4.cell (p := ⟨w.heap.size, 0, none⟩) hla).trans x0
         have x1 := (hb4.cell (p := ⟨w.heap.size, 1, none⟩) hla).trans x1
         have e1 := World.new_ne w4 _ y0
         have e2 := World.new_ne w4 _ x0
         have HB4 := hid hb4))
  all_goals
    go_wp2_with fail
    refine gen_w (fun W hW => ?_)
    have hBW : Below w0.heap.size w0 W := by
      rw [hW]
      first
        | exact HB4.out.alloc HB4.out.size _
        | exact ((HB4.out.setCell (Nat.le_refl _) _).setCell (Nat.le_refl _) _).setCell (Nat.le_refl _) _
    first
      | (have hK : Blk W w4.heap.size 38 [.int .u64 (c1 : Int), .int .u64 (c2 : Int), .int .i64 (n : Int)] := by rw [hW]; exact Blk.new w4 [.int .u64 (c1 : Int), .int .u64 (c2 : Int), .int .i64 (n : Int)] 38
         obtain ⟨kb, hkb⟩ : ∃ kb, w4.heap.size = kb := ⟨_, rfl⟩
         rw [hkb] at hK ⊢
         clear hkb)
      | (have hK : Blk W w0.heap.size 38 [.int .u64 (c1 : Int), .int .u64 (c2 : Int), .int .i64 (n : Int)] := by rw [hW]; exact ((hn0.set 0 (.int .u64 (c1 : Int))).set 1 (.int .u64 (c2 : Int))).set 2 (.int .i64 (n : Int))
         obtain ⟨kb, hkb⟩ : ∃ kb, w0.heap.size = kb := ⟨_, rfl⟩
         rw [hkb] at hK ⊢
         clear hkb)
    have HQW := hid (HQ.out.below hBW)
    have HBW := hid (held_next HB.out hBW)
    have HKW := hid hK
    have HTW := hid HQW.out.top
    clear hW hK hBW HB4 hb4 hb4' y0 x0 x1 e1 e2
    try clear n0 n1 n2 n3 n4 n5
    try clear hn0
    have cM := hid fun (w' : World) (h : Below W.heap.size W w') => HFM.out w' f FF (HQW.out.below h).flt
    cases B
    · go_wp2_with fail
      refine wp_region_later (fun w' => w'.cell? ⟨b, 1, none⟩ = some (.pointer (some ⟨f, 0, none⟩)) ∧ w'.cell? ⟨kb, 0, none⟩ = some (.int .u64 (c1 : Int)) ∧ w'.cell? ⟨kb, 1, none⟩ = some (.int .u64 (c2 : Int)) ∧ w'.cell? ⟨kb, 2, none⟩ = some (.int .i64 (n : Int)))
        (fun z => ⟨z.cell (HTW.out.cellv rfl), z.cell (HKW.out.cellv rfl), z.cell (HKW.out.cellv rfl), z.cell (HKW.out.cellv rfl)⟩) (by kernel_rfl) (by kernel_rfl) (fun HS => ?_)
      repeat (go_big_quiet_step (with_reducible exact Later.calls _ (cM.out _ (Later.below _))))
      refine wpQuiet_nil ?_
      rintro w5 ⟨⟨_, hb5⟩, rfl⟩
      have HB5 := hid (held_next HBW.out hb5)
      clear hb5 HS cM
      have hhh : HH = false := by
        cases HH
        · rfl
        · exact absurd (HMAY.out rfl) (by decide)
      have hvv := HV0.out hhh
      subst hhh
      go_wp2_with fail
      go_returns
      exact ⟨rfl, HB5.out⟩
    · go_wp2_with fail
      refine wp_region_later (fun w' => w'.cell? ⟨b, 1, none⟩ = some (.pointer (some ⟨f, 0, none⟩)) ∧ w'.cell? ⟨kb, 0, none⟩ = some (.int .u64 (c1 : Int)) ∧ w'.cell? ⟨kb, 1, none⟩ = some (.int .u64 (c2 : Int)) ∧ w'.cell? ⟨kb, 2, none⟩ = some (.int .i64 (n : Int)))
        (fun z => ⟨z.cell (HTW.out.cellv rfl), z.cell (HKW.out.cellv rfl), z.cell (HKW.out.cellv rfl), z.cell (HKW.out.cellv rfl)⟩) (by kernel_rfl) (by kernel_rfl) (fun HS => ?_)
      repeat (go_big_quiet_step (with_reducible exact Later.calls _ (cM.out _ (Later.below _))))
      refine wpQuiet_nil ?_
      rintro w5 ⟨⟨_, hb5⟩, rfl⟩
      have HB5 := hid (held_next HBW.out hb5)
      have HQ5 := hid (HQW.out.below hb5)
      have HK5 := hid (HKW.out.below' hb5)
      clear hb5 HS cM HQW HKW HTW HBW
      have cG := hid (HGET.out w5.drew g TF (HQ5.out.below (Below.refl w5.heap.size w5).drew).tab)
      have y2 := HQ5.out.top.cellv (i := 2) rfl
      have k0 := HK5.out.cellv (i := 0) rfl
      have k1 := HK5.out.cellv (i := 1) rfl
      have k2 := HK5.out.cellv (i := 2) rfl
      have hlb5 := HQ5.out.top.lt
      have hlk5 := HK5.out.lt
      go_wp2_with fail
      go_region_held3 (fun w' => w'.cell? ⟨b, 2, none⟩ = some (.pointer (some ⟨g, 0, none⟩)) ∧ w'.cell? ⟨kb, 0, none⟩ = some (.int .u64 (c1 : Int)) ∧ w'.cell? ⟨kb, 1, none⟩ = some (.int .u64 (c2 : Int)) ∧ w'.cell? ⟨kb, 2, none⟩ = some (.int .i64 (n : Int))) (first | go_keep | (refine ⟨?_, ?_, ?_, ?_⟩ <;> assumption))
        (first
          | (with_reducible refine cG.out.mono ?_
             rintro _ w6 ⟨u6, rfl, hU6, hb6'⟩
             have hb6 : Below w5.heap.size w5 w6 := (Below.refl w5.heap.size w5).drew.trans hb6'
             obtain ⟨Au, cu, hu, _, _, _⟩ := Owns.form hU6
             subst hu
             have y2 := (hb6.cell (p := ⟨b, 2, none⟩) hlb5).trans y2
             have k0 := (hb6.cell (p := ⟨kb, 0, none⟩) hlk5).trans k0
             have k1 := (hb6.cell (p := ⟨kb, 1, none⟩) hlk5).trans k1
             have k2 := (hb6.cell (p := ⟨kb, 2, none⟩) hlk5).trans k2))
      have HB6 := hid (held_next HB5.out hb6)
      clear y2 k0 k1 k2 hb6 hb6' hU6 cG HQ5 HK5
      go_wp2_with fail
      go_returns
      exact ⟨rfl, HB6.out⟩

/-! ### Turning -/
def RLvTPost (w : World) (b : Nat) (F : Nat → Prop) (n : Int) (s : Nat) (k : Int) (a : List Nat × Tb) (e : Ending) (w' : World) : Prop :=
  e = .returned (.tuple #[]) ∧ RLv w' b (fun z => F z ∨ w.heap.size ≤ z) n s k a.1 a.2 ∧ Chg F w w'
def RLvTRel (w : World) (b : Nat) (F : Nat → Prop) (n : Int) (s : Nat) (k : Int) (a : List Nat × Tb) (xs : List Ch) (i : Value) (wr : World) : Prop :=
  ∃ j : Nat, j ≤ xs.length ∧ i = .int .i64 j ∧ RLv wr b (fun z => F z ∨ w.heap.size ≤ z) n s k (lvRun s k n a (xs.take j)).1 (lvRun s k n a (xs.take j)).2 ∧ Chg F w wr
/-- Where a change lies, as long as only the level's own blocks change. -/
def ChAt (ba oj : Nat) (x : Ch) (w : World) : Prop := w.cell? ⟨ba, oj, none⟩ = some (.int .u64 (x.1.1.1 : Int)) ∧ w.cell? ⟨ba, oj + 1, none⟩ = some (.int .u64 (x.1.1.2 : Int)) ∧ w.cell? ⟨ba, oj + 2, none⟩ = some (.int .i64 x.1.2) ∧ w.cell? ⟨ba, oj + 4, none⟩ = some (.int .i64 x.2.2)
theorem ChAt.chg {ba oj : Nat} {x : Ch} {w w' : World} {S : Nat → Prop} (h : ChAt ba oj x w) (hl : ba < w.heap.size) (hc : Chg S w w') (hS : ¬ S ba) : ChAt ba oj x w' :=
  ⟨(hc.cell hl hS _).trans h.1, (hc.cell hl hS _).trans h.2.1, (hc.cell hl hS _).trans h.2.2.1, (hc.cell hl hS _).trans h.2.2.2⟩

set_option maxHeartbeats 8000000 in
theorem rlv_turn {w : World} {b s m : Nat} {F : Nat → Prop} {n k : Int} {a : List Nat × Tb} {l : List Rt} (H : RLv w b F n s k a.1 a.2) (hI : LvOk s k m a.1 a.2 l) (v : Value) (xs : List Ch) (hR : Rd chgEn 5 w v xs) (ho : ∀ x ∈ xs, x.1.1.ok)
    (hv : 0 < xs.length → ∀ z, v.ownBlock = some z → ¬ F z) (hlen : l.length + xs.length < 90000) :
    Calls Tryz.prog 9 #[.pointer (some ⟨b, 0, none⟩), v] w (RLvTPost w b F n s k (lvRun s k n a xs)) := by
  have HR := hid hR
  have HOK := hid fun (j : Nat) (x : Ch) (h : xs[j]? = some x) => ho x (List.mem_of_getElem? h)
  have HRUN := hid (lvRun_ok hI n xs ho)
  have HV := hid hv
  obtain ⟨A, cap, rfl, hnc, hcm⟩ := hR.form
  unfold maxLen at hcm
  obtain ⟨N, hN⟩ : ∃ N, xs.length = N := ⟨_, rfl⟩
  have HN := hid hN
  have H0 := hid H
  rw [hN] at hnc hlen HV HR ⊢
  have HALL := hid (show xs.take N = xs by rw [← hN, List.take_length])
  clear hR ho hI hN hv H
  go_enter Tryz.func9, Tryz.ntmps9
  go_wp2_with fail
  go_loopw [4] (fun i wr => RLvTRel w b F n s k a xs i wr) (fun i _ => N - (intOf i).toNat)
  case atStart => exact ⟨0, Nat.zero_le _, rfl, H0.out.mono fun z _ hz => .inl hz, Chg.refl _ _⟩
  case round =>
    obtain ⟨j, hj, rfl, hL, hC⟩ := hrel
    rw [HN.out] at hj
    have HL := hid hL
    have HC := hid hC
    have HRJ := hid (HRUN.out j (by rw [HN.out]; exact hj))
    by_cases hjn : j < N
    · obtain ⟨x, hx⟩ : ∃ x, xs[j]? = some x := ⟨_, List.getElem?_eq_getElem (by rw [HN.out]; exact hjn)⟩
      obtain ⟨ba, oa, ca, hvv, _, _, la0, sa⟩ := HR.out.get chgEn_len (by decide) hx
      rw [HN.out] at hvv
      injection hvv with hA hxx hc
      subst hA hc
      have HBA := hid (show ¬ F ba ∧ ba < w.heap.size from ⟨HV.out (by omega) ba rfl, la0⟩)
      have la : ba < wr.heap.size := Nat.lt_of_lt_of_le la0 hC.size
      have HSN := hid (lvRun_snoc (s := s) (k := k) (n := n) (a := a) hx)
      have hok := HOK.out j x hx
      have HXOK := hid hok
      have HCA := hid (ChAt.chg (x := x) (oj := oa + j * 5) ⟨sa 0 _ rfl, sa 1 _ rfl, sa 2 _ rfl, sa 4 _ rfl⟩ la0 hC HBA.out.1)
      generalize lvRun s k n a (xs.take j) = aj at *
      have hkl := HRJ.out.1.rep.len
      have hkl2 := HRJ.out.2
      have hsl := st_le aj.2
      obtain ⟨f, g, FF, TF, hQ⟩ := hL
      have HQ := hid hQ
      have hlb := hQ.top.lt
      have cG := hid fun (w' : World) (h : Below wr.heap.size wr w') => rk_get (hQ.below h).tab HRJ.out.1.ok x.1 hok
      unfold CkGet at cG
      have HIF := hid (fun (h : x.1.2 = n) => show lvS s k n aj x = (lvC s k aj.1 aj.2 x.1 x.2.2, lvT aj.2 x.1 x.2.2) from if_pos h)
      have HIFN := hid (fun (h : ¬ x.1.2 = n) => show lvS s k n aj x = aj from if_neg h)
      have hvC : lvC s k aj.1 aj.2 x.1 x.2.2 = if 0 ≤ x.2.2 then (if hasT aj.2 x.1 = true then aj.1 else addC (placesN s x.1 k (aj.1.length : Int)) aj.1) else if hasT aj.2 x.1 = true then remC (placesN s x.1 k (aj.1.length : Int)) aj.1 else aj.1 := rfl
      have hvT : lvT aj.2 x.1 x.2.2 = if 0 ≤ x.2.2 then putT 16 aj.2 x.1 x.2.2 else if hasT aj.2 x.1 = true then delT aj.2 x.1 else aj.2 := rfl
      have HVC := hid hvC
      have HVT := hid hvT
      have HTF := hid hQ.tf
      have HFF := hid hQ.ff
      obtain ⟨D, hD⟩ : ∃ D, hasT aj.2 x.1 = D := ⟨_, rfl⟩
      have HD := hid hD
      rw [hD] at cG HVC HVT
      clear hvC hvT hD hQ
      obtain ⟨⟨⟨x1, x2⟩, x3⟩, x4, x5⟩ := x
      generalize lvC s k aj.1 aj.2 ((x1, x2), x3) x5 = C' at *
      generalize lvT aj.2 ((x1, x2), x3) x5 = T' at *
      simp only at cG HVC HVT HIF HIFN HXOK HD
      obtain ⟨z0, z1, z2, z4⟩ := HCA.out
      simp only at z0 z1 z2 z4
      have hj0 : (0 : Int) ≤ (j : Int) := by omega
      have hj1 : (j : Int) < (N : Int) := by omega
      have HTOP := hid HQ.out.top
      have hla := la
      clear hC hx hxx sa hok z0 z1 z4
      go_wp2_with fail
      refine wp_region_later (fun w' => w'.cell? ⟨b, 0, none⟩ = some (.int .i64 n) ∧ w'.cell? ⟨ba, oa + j * 5 + 2, none⟩ = some (.int .i64 x3)) (fun z => ⟨z.cell (HTOP.out.cellv rfl), z.cell z2⟩) (by kernel_rfl) (by kernel_rfl) (fun HS => ?_)
      repeat (go_big_quiet_step (fail))
      refine wpQuiet_nil ?_
      rintro w6 ⟨⟨_, hb6⟩, rfl⟩
      have HQ6 := hid (HQ.out.below hb6)
      have HC6 := hid (HC.out.trans' (Chg.of_below hb6 F))
      have HCA6 := hid (HCA.out.chg hla (Chg.of_below hb6 (fun _ => False)) id)
      have HB6 := hid hb6
      have hs6 := hb6.size
      clear HS z2 HQ HC HCA HTOP hb6
      by_cases hxn : x3 = n
      · have HST := hid (HIF.out hxn)
        subst hxn
        have cGd := hid (cG.out w6.drew (HB6.out.drew))
        have y2 := HQ6.out.top.cellv (i := 2) rfl
        obtain ⟨q0, q1, q2, q4⟩ := HCA6.out
        simp only at q0 q1 q2 q4
        clear cG HIF HIFN HB6
        go_wp2_with fail
        go_region_held3 (fun w' => w'.cell? ⟨b, 2, none⟩ = some (.pointer (some ⟨g, 0, none⟩)) ∧ w'.cell? ⟨ba, oa + j * 5, none⟩ = some (.int .u64 (x1 : Int)) ∧ w'.cell? ⟨ba, oa + j * 5 + 1, none⟩ = some (.int .u64 (x2 : Int)) ∧ w'.cell? ⟨ba, oa + j * 5 + 2, none⟩ = some (.int .i64 x3)) (first | go_keep | (refine ⟨?_, ?_, ?_, ?_⟩ <;> assumption))
          (first
            | (with_reducible refine cGd.out.mono ?_
               rintro _ w7 ⟨u, rfl, hU, hb7'⟩
               have hb7 : Below w6.heap.size w6 w7 := (Below.refl w6.heap.size w6).drew.trans hb7'
               obtain ⟨Au, cu, hu, _, _, _⟩ := Owns.form hU
               subst hu
               have HQ7 := hid (HQ6.out.below hb7)
               have HCA7 := hid (HCA6.out.chg (Nat.lt_of_lt_of_le hla hs6) (Chg.of_below hb7 (fun _ => False)) id)
               have y2 := HQ7.out.top.cellv (i := 2) rfl
               obtain ⟨q0, q1, q2, q4⟩ := HCA7.out
               simp only at q0 q1 q2 q4))
        have HC7 := hid (HC6.out.trans' (Chg.of_below hb7 F))
        have hs7 := hb7.size
        have hla7 : ba < w7.heap.size := by omega
        have hW7 := HC7.out.size
        clear hb7 hb7' hU cGd HQ6 HCA6 HC6
        have HNT := hid (show ¬ TF ba from fun h => by
          rcases (HTF.out ba h).2.1 with h | h
          · exact HBA.out.1 h
          · have := HBA.out.2; omega)
        have HNF := hid (show ¬ FF ba from fun h => by
          rcases (HFF.out ba h).2.1 with h | h
          · exact HBA.out.1 h
          · have := HBA.out.2; omega)
        have HTS := hid (show ∀ z, z < w.heap.size → TF z → F z from fun z hz h => by
          rcases (HTF.out z h).2.1 with h | h
          · exact h
          · omega)
        have HFS := hid (show ∀ z, z < w.heap.size → FF z → F z from fun z hz h => by
          rcases (HFF.out z h).2.1 with h | h
          · exact h
          · omega)
        by_cases hv : 0 ≤ x5
        · rw [if_pos hv] at HVC HVT
          have cP := hid (rk_put16 (HQ7.out.below (Below.refl w7.heap.size w7).drew).tab HRJ.out.1.ok (by omega) ((x1, x2), x3) HXOK.out x5)
          go_wp2_with fail
          refine wp_region_tail 14 (by kernel_rfl) (by kernel_rfl) ?_
          simp only [List.take_succ_cons, List.take_zero, List.drop_succ_cons, List.drop_zero]
          repeat still_step
          refine wpStill_nil ?_
          go_wp2_with fail
          refine cP.out.mono ?_
          rintro _ w8 ⟨rfl, hT8, hC8⟩
          have hC8' : Chg TF w7 w8 := (Chg.refl TF w7).drew.trans' hC8
          have HQ8 := hid (HQ7.out.turnT (hT8.mono (fun z _ hz => hz)) hC8')
          have HC8 := hid (HC7.out.trans hC8' HTS.out)
          have HCA8 := hid (HCA7.out.chg hla7 hC8' HNT.out)
          have hs8 := hC8'.size
          clear hT8 hC8 hC8' cP y2 q0 q1 q2 q4 HQ7 HCA7 HC7
          obtain ⟨q0, q1, q2, q4⟩ := HCA8.out
          simp only at q0 q1 q2 q4
          cases D
          · rw [if_neg (by decide)] at HVC
            have cA := hid (rf_add (HQ8.out.below (Below.refl w8.heap.size w8).drew).flt ((x1, x2), x3) HXOK.out)
            have y1 := HQ8.out.top.cellv (i := 1) rfl
            go_wp2_with fail
            refine wp_region_tail 9 (by kernel_rfl) (by kernel_rfl) ?_
            simp only [List.take_succ_cons, List.take_zero, List.drop_succ_cons, List.drop_zero]
            repeat still_step
            refine wpStill_nil ?_
            go_wp2_with fail
            refine cA.out.mono ?_
            rintro _ w9 ⟨rfl, hF9, hC9⟩
            have hC9' : Chg FF w8 w9 := (Chg.refl FF w8).drew.trans' hC9
            have HQ9 := hid (HQ8.out.turnF hF9 hC9')
            have HC9 := hid (HC8.out.trans hC9' HFS.out)
            have HFIN := hid (show RLv w9 b (fun z => F z ∨ w.heap.size ≤ z) x3 s k C' T' from by
              rw [HVC.out, HVT.out]
              exact ⟨f, g, _, _, HQ9.out.mono fun z _ hz => by
                rcases hz with hz | hz
                · exact hz
                · exact .inr (by omega)⟩)
            clear hF9 hC9 hC9' cA y1 q0 q1 q2 q4 HQ8 HC8 HCA8 HQ9
            go_wp2_with fail
            go_roundw
            case rel => exact ⟨j + 1, by rw [HN.out]; omega, by go_num, by rw [HSN.out, HST.out]; exact HFIN.out, HC9.out⟩
            case measure => simp [intOf]; omega
          · rw [if_pos rfl] at HVC
            have HFIN := hid (show RLv w8 b (fun z => F z ∨ w.heap.size ≤ z) x3 s k C' T' from by
              rw [HVC.out, HVT.out]
              exact ⟨f, g, _, _, HQ8.out.mono fun z _ hz => by
                rcases hz with hz | hz
                · exact hz
                · exact .inr (by omega)⟩)
            clear q0 q1 q2 q4 HCA8 HQ8
            go_wp2_with fail
            go_roundw
            case rel => exact ⟨j + 1, by rw [HN.out]; omega, by go_num, by rw [HSN.out, HST.out]; exact HFIN.out, HC8.out⟩
            case measure => simp [intOf]; omega
        · rw [if_neg hv] at HVC HVT
          cases D
          · rw [if_neg (by decide)] at HVC HVT
            have HFIN := hid (show RLv w7 b (fun z => F z ∨ w.heap.size ≤ z) x3 s k C' T' from by
              rw [HVC.out, HVT.out]
              exact ⟨f, g, _, _, HQ7.out⟩)
            clear y2
            go_wp2_with fail
            go_roundw
            case rel => exact ⟨j + 1, by rw [HN.out]; omega, by go_num, by rw [HSN.out, HST.out]; exact HFIN.out, HC7.out⟩
            case measure => simp [intOf]; omega
          · rw [if_pos rfl] at HVC HVT
            have cP := hid (rk_delete (HQ7.out.below (Below.refl w7.heap.size w7).drew).tab HRJ.out.1.ok (by omega) ((x1, x2), x3) HXOK.out)
            go_wp2_with fail
            refine wp_region_tail 9 (by kernel_rfl) (by kernel_rfl) ?_
            simp only [List.take_succ_cons, List.take_zero, List.drop_succ_cons, List.drop_zero]
            repeat still_step
            refine wpStill_nil ?_
            go_wp2_with fail
            refine cP.out.mono ?_
            rintro _ w8 ⟨rfl, hT8, hC8⟩
            have hC8' : Chg TF w7 w8 := (Chg.refl TF w7).drew.trans' hC8
            have HQ8 := hid (HQ7.out.turnT (hT8.mono (fun z _ hz => hz)) hC8')
            have HC8 := hid (HC7.out.trans hC8' HTS.out)
            have HCA8 := hid (HCA7.out.chg hla7 hC8' HNT.out)
            have hs8 := hC8'.size
            clear hT8 hC8 hC8' cP y2 q0 q1 q2 q4 HQ7 HCA7 HC7
            obtain ⟨q0, q1, q2, q4⟩ := HCA8.out
            simp only at q0 q1 q2 q4
            have cA := hid (rf_remove (HQ8.out.below (Below.refl w8.heap.size w8).drew).flt ((x1, x2), x3) HXOK.out)
            have y1 := HQ8.out.top.cellv (i := 1) rfl
            go_wp2_with fail
            refine wp_region_tail 9 (by kernel_rfl) (by kernel_rfl) ?_
            simp only [List.take_succ_cons, List.take_zero, List.drop_succ_cons, List.drop_zero]
            repeat still_step
            refine wpStill_nil ?_
            go_wp2_with fail
            refine cA.out.mono ?_
            rintro _ w9 ⟨rfl, hF9, hC9⟩
            have hC9' : Chg FF w8 w9 := (Chg.refl FF w8).drew.trans' hC9
            have HQ9 := hid (HQ8.out.turnF hF9 hC9')
            have HC9 := hid (HC8.out.trans hC9' HFS.out)
            have HFIN := hid (show RLv w9 b (fun z => F z ∨ w.heap.size ≤ z) x3 s k C' T' from by
              rw [HVC.out, HVT.out]
              exact ⟨f, g, _, _, HQ9.out.mono fun z _ hz => by
                rcases hz with hz | hz
                · exact hz
                · exact .inr (by omega)⟩)
            clear hF9 hC9 hC9' cA y1 q0 q1 q2 q4 HQ8 HC8 HCA8 HQ9
            go_wp2_with fail
            go_roundw
            case rel => exact ⟨j + 1, by rw [HN.out]; omega, by go_num, by rw [HSN.out, HST.out]; exact HFIN.out, HC9.out⟩
            case measure => simp [intOf]; omega
      · have HST := hid (HIFN.out hxn)
        have HFIN := hid (show RLv w6 b (fun z => F z ∨ w.heap.size ≤ z) n s k aj.1 aj.2 from ⟨f, g, _, _, HQ6.out⟩)
        clear HB6 HCA6 HQ6 cG
        go_wp2_with fail
        go_roundw
        case rel => exact ⟨j + 1, by rw [HN.out]; omega, by go_num, by rw [HSN.out, HST.out]; exact HFIN.out, HC6.out⟩
        case measure => simp [intOf]; omega
    · have hjn' : j = N := by omega
      subst hjn'
      rw [HALL.out] at hL
      have HL2 := hid hL
      clear hL hC
      go_wp2_with fail
      go_returns
      exact ⟨rfl, HL2.out, HC.out⟩

/-! ### Making one -/
def RLvNew (w : World) (n : Int) (s : Nat) (k : Int) (m nb : Nat) (e : Ending) (w' : World) : Prop :=
  ∃ (b : Nat) (F : Nat → Prop), e = .returned (.tuple #[.pointer (some ⟨b, 0, none⟩), .int .i64 0]) ∧ RLv w' b F n s k (List.replicate m 0) (newT (mixN s) nb) ∧ (∀ z, F z → w.heap.size ≤ z) ∧ Below w.heap.size w w'
theorem rlv_new (w : World) (n : Int) (s : Nat) (hs : s < 2 ^ 64) (k : Int) (m nb : Nat) (hn1 : 1 ≤ n) (hn2 : n ≤ 128) (h1 : 1 ≤ k) (h2 : k ≤ 16) (h3 : 1 ≤ m) (h4 : m ≤ 65536) (h5 : 1 ≤ nb) (h6 : nb ≤ 65536) :
    Calls Tryz.prog 6 #[.int .i64 n, .int .u64 (s : Int), .int .i64 k, .int .i64 (m : Int), .int .i64 (nb : Int)] w (RLvNew w n s k m nb) := by
  have cF := hid (ref_newFilter s hs k m h1 h2 h3 h4 w)
  have cT := hid (fun w => rk_new w (mixN s) nb h5 h6)
  have cM := hid (fun w => ref_mix s w)
  have d1 : ¬ n < 1 := by omega
  have d2 : ¬ 128 < n := by omega
  unfold RNewPost at cF
  unfold RLvNew
  generalize newT (mixN s) nb = t0 at *
  generalize List.replicate m 0 = c0 at *
  go_enter Tryz.func6, Tryz.ntmps6
  go_wp2_with fail
  refine cF.out.mono ?_
  rintro _ w1 ⟨f, fq, rfl, hF, hff, hfq, hb1⟩
  have HF := hid hF
  have HB1 := hid hb1
  have hlf := hF.top.lt
  have hlfq := hF.row.lt
  have hbs := hb1.size
  clear hF hb1 cF
  go_wp2_with fail
  refine (cM.out _).mono ?_
  rintro _ w2 ⟨rfl, rfl⟩
  go_wp2_with fail
  refine (cT.out _).mono ?_
  rintro _ w2 ⟨g, rfl, hg, hb2, q, hT, hq⟩
  have HT := hid hT
  have HB2 := hid hb2
  have hlg := hT.top.lt
  have hlq := hT.bk.lt
  have hs1 := HB2.out.size
  clear hT hb2 cT
  go_wp2_with fail
  go_ret2
  have hb3 := (Below.refl w2.heap.size w2).alloc (Nat.le_refl _) (.cells #[.int .i64 n, .pointer (some ⟨f, 0, none⟩), .pointer (some ⟨g, 0, none⟩)] 52)
  have h4 : w2.heap.size < (w2.alloc (.cells #[.int .i64 n, .pointer (some ⟨f, 0, none⟩), .pointer (some ⟨g, 0, none⟩)] 52)).heap.size := by simp
  refine ⟨w2.heap.size, fun z => w.heap.size ≤ z, rfl, ⟨f, g, fun z => z = f ∨ z = fq, fun z => z = g ∨ z = q, ⟨Blk.new w2 [.int .i64 n, .pointer (some ⟨f, 0, none⟩), .pointer (some ⟨g, 0, none⟩)] 52, ⟨fq, (HF.out.below HB2.out).below hb3, .inl rfl, .inr rfl⟩, ⟨q, _, HT.out.below hb3, .inl rfl, .inr rfl, fun z hz => by simp [Value.ownBlock] at hz⟩, fun z hz => ?_, fun z hz => ?_, ?_⟩⟩, fun z hz => hz, held_next (held_next HB1.out HB2.out) hb3⟩
  · have hz' : w.heap.size ≤ z ∧ z < w1.heap.size := by rcases hz with rfl | rfl; exact ⟨hff, hlf⟩; exact ⟨hfq, hlfq⟩
    exact ⟨by omega, hz'.1, by omega, by omega⟩
  · exact ⟨by omega, by omega, by omega⟩
  · show w.heap.size ≤ w2.heap.size
    omega

end Go.Proofs.YtpjjijhojcfmnaaGreat
