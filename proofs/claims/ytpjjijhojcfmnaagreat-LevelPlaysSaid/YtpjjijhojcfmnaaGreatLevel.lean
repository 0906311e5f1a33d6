/-
  A level in the heap: turning a key, looking, all keys, its size. No condition but that words are words.
-/
import Derived.Test.YtpjjijhojcfmnaaGreatLevelM
import Derived.Test.YtpjjijhojcfmnaaGreatCkLaw
namespace Go.Proofs.YtpjjijhojcfmnaaGreat
open Go.RowKit
set_option linter.unusedVariables false
set_option linter.unusedSimpArgs false
set_option maxRecDepth 100000

structure LvQ (w : World) (b f g : Nat) (FF TF F : Nat → Prop) (n : Int) (s : Nat) (k : Int) (c : List Nat) (t : Tb) : Prop where
  top : Blk w b 63 [.int .i64 n, .pointer (some ⟨f, 0, none⟩), .pointer (some ⟨g, 0, none⟩)]
  flt : Flt w f FF s k c
  tab : TwF w g TF t
  ff : ∀ z, FF z → z < w.heap.size ∧ F z ∧ z ≠ b ∧ ¬ TF z
  tf : ∀ z, TF z → z < w.heap.size ∧ F z ∧ z ≠ b
  fb : F b
def Lv (w : World) (b : Nat) (F : Nat → Prop) (n : Int) (s : Nat) (k : Int) (c : List Nat) (t : Tb) : Prop := ∃ f g FF TF, LvQ w b f g FF TF F n s k c t
theorem LvQ.below {w w' : World} {b f g s : Nat} {FF TF F : Nat → Prop} {n k : Int} {c : List Nat} {t : Tb} (h : LvQ w b f g FF TF F n s k c t) (hb : Below w.heap.size w w') : LvQ w' b f g FF TF F n s k c t :=
  ⟨h.top.below' hb, h.flt.below hb, h.tab.below hb, fun z hz => ⟨Nat.lt_of_lt_of_le (h.ff z hz).1 hb.size, (h.ff z hz).2⟩, fun z hz => ⟨Nat.lt_of_lt_of_le (h.tf z hz).1 hb.size, (h.tf z hz).2⟩, h.fb⟩
theorem LvQ.mono {w : World} {b f g s : Nat} {FF TF F G : Nat → Prop} {n k : Int} {c : List Nat} {t : Tb} (h : LvQ w b f g FF TF F n s k c t) (hs : ∀ z, z < w.heap.size → F z → G z) : LvQ w b f g FF TF G n s k c t :=
  ⟨h.top, h.flt, h.tab, fun z hz => ⟨(h.ff z hz).1, hs z (h.ff z hz).1 (h.ff z hz).2.1, (h.ff z hz).2.2⟩, fun z hz => ⟨(h.tf z hz).1, hs z (h.tf z hz).1 (h.tf z hz).2.1, (h.tf z hz).2.2⟩, hs b h.top.lt h.fb⟩
theorem LvQ.chg {w w' : World} {b f g s : Nat} {FF TF F S : Nat → Prop} {n k : Int} {c : List Nat} {t : Tb} (h : LvQ w b f g FF TF F n s k c t) (hc : Chg S w w') (hS : ∀ z, z < w.heap.size → F z → ¬ S z) : LvQ w' b f g FF TF F n s k c t :=
  ⟨h.top.chg hc (hS b h.top.lt h.fb), h.flt.chg hc (fun z hz => hS z (h.ff z hz).1 (h.ff z hz).2.1), h.tab.chg hc (fun z _ hz => hS z (h.tf z hz).1 (h.tf z hz).2.1),
    fun z hz => ⟨Nat.lt_of_lt_of_le (h.ff z hz).1 hc.size, (h.ff z hz).2⟩, fun z hz => ⟨Nat.lt_of_lt_of_le (h.tf z hz).1 hc.size, (h.tf z hz).2⟩, h.fb⟩
theorem Lv.below {w w' : World} {b s : Nat} {F : Nat → Prop} {n k : Int} {c : List Nat} {t : Tb} (h : Lv w b F n s k c t) (hb : Below w.heap.size w w') : Lv w' b F n s k c t := let ⟨f, g, A, B, h⟩ := h; ⟨f, g, A, B, h.below hb⟩
theorem Lv.mono {w : World} {b s : Nat} {F G : Nat → Prop} {n k : Int} {c : List Nat} {t : Tb} (h : Lv w b F n s k c t) (hs : ∀ z, z < w.heap.size → F z → G z) : Lv w b G n s k c t := let ⟨f, g, A, B, h⟩ := h; ⟨f, g, A, B, h.mono hs⟩
theorem Lv.chg {w w' : World} {b s : Nat} {F S : Nat → Prop} {n k : Int} {c : List Nat} {t : Tb} (h : Lv w b F n s k c t) (hc : Chg S w w') (hS : ∀ z, z < w.heap.size → F z → ¬ S z) : Lv w' b F n s k c t := let ⟨f, g, A, B, h⟩ := h; ⟨f, g, A, B, h.chg hc hS⟩
/-- Behind the filter's turn. -/
theorem LvQ.turnF {w w' : World} {b f g s : Nat} {FF TF F : Nat → Prop} {n k : Int} {c c' : List Nat} {t : Tb} (h : LvQ w b f g FF TF F n s k c t) (hf : Flt w' f FF s k c') (hc : Chg FF w w') : LvQ w' b f g FF TF F n s k c' t :=
  ⟨h.top.chg hc (fun hz => (h.ff b hz).2.2.1 rfl), hf, h.tab.chg hc (fun z _ hz hz2 => (h.ff z hz2).2.2.2 hz),
    fun z hz => ⟨Nat.lt_of_lt_of_le (h.ff z hz).1 hc.size, (h.ff z hz).2⟩, fun z hz => ⟨Nat.lt_of_lt_of_le (h.tf z hz).1 hc.size, (h.tf z hz).2⟩, h.fb⟩
/-- Behind the table's turn. -/
theorem LvQ.turnT {w w' : World} {b f g s : Nat} {FF TF F : Nat → Prop} {n k : Int} {c : List Nat} {t t' : Tb} (h : LvQ w b f g FF TF F n s k c t) (ht : TwF w' g (fun z => TF z ∨ w.heap.size ≤ z) t') (hc : Chg TF w w') :
    LvQ w' b f g FF (fun z => (TF z ∨ w.heap.size ≤ z) ∧ z < w'.heap.size) (fun z => F z ∨ w.heap.size ≤ z) n s k c t' :=
  ⟨h.top.chg hc (fun hz => (h.tf b hz).2.2 rfl), h.flt.chg hc (fun z hz hz2 => (h.ff z hz).2.2.2 hz2), ht.mono (fun z hz k => ⟨k, hz⟩),
    fun z hz => ⟨Nat.lt_of_lt_of_le (h.ff z hz).1 hc.size, .inl (h.ff z hz).2.1, (h.ff z hz).2.2.1, fun k => by
      rcases k.1 with k1 | k1
      · exact (h.ff z hz).2.2.2 k1
      · have := (h.ff z hz).1; omega⟩,
    fun z hz => ⟨hz.2, by rcases hz.1 with k | k; exact .inl (h.tf z k).2.1; exact .inr k, by
      rcases hz.1 with k | k
      · exact (h.tf z k).2.2
      · have := h.top.lt; omega⟩, .inl h.fb⟩

def chEn (p : Pf) (o v : Int) : List Value := [.int .u64 (p.1.1 : Int), .int .u64 (p.1.2 : Int), .int .i64 p.2, .int .i64 o, .int .i64 v]
def LvPost (w : World) (b : Nat) (F : Nat → Prop) (n : Int) (s : Nat) (k : Int) (c' : List Nat) (t' : Tb) (e : Ending) (w' : World) : Prop :=
  e = .returned (.tuple #[]) ∧ Lv w' b (fun z => F z ∨ w.heap.size ≤ z) n s k c' t' ∧ Chg F w w'

set_option maxHeartbeats 4000000 in
theorem lv_turn {w : World} {b s : Nat} {F : Nat → Prop} {n k : Int} {c : List Nat} {t : Tb} (H0 : Lv w b F n s k c t) (hok : t.Ok) (hlen : (keysT t).length < 50000000) (p : Pf) (hp : p.1.ok) (o v : Int) :
    Calls Tryz.prog 22 #[.pointer (some ⟨b, 0, none⟩), .agg #[.int .u64 (p.1.1 : Int), .int .u64 (p.1.2 : Int), .int .i64 p.2, .int .i64 o, .int .i64 v]] w (LvPost w b F n s k (lvC s k c t p v) (lvT t p v)) := by
  obtain ⟨f, g, FF, TF, H⟩ := H0
  have hb := (Below.refl w.heap.size w).alloc (Nat.le_refl _) (.cells #[.int .u64 (p.1.1 : Int), .int .u64 (p.1.2 : Int), .int .i64 p.2, .int .i64 o, .int .i64 v] 40)
  have H1 := H.below hb
  have hpb := Blk.new_at w #[.int .u64 (p.1.1 : Int), .int .u64 (p.1.2 : Int), .int .i64 p.2, .int .i64 o, .int .i64 v] 40 w.heap.size rfl
  have hsl := st_le t
  have HTF := hid H.tf
  have HFF := hid H.ff
  have HFB := hid H.fb
  have HC0 := hid (Chg.of_below hb F)
  have HSZ := hid hb.size
  have HBW := hid H.top.lt
  generalize hw0 : w.alloc (.cells #[.int .u64 (p.1.1 : Int), .int .u64 (p.1.2 : Int), .int .i64 p.2, .int .i64 o, .int .i64 v] 40) = w0 at *
  have cG := hid fun (w' : World) (h : Below w0.heap.size w0 w') => ck_get (H1.below h).tab hok (by omega) p hp
  have hvC : lvC s k c t p v = if 0 ≤ v then (if hasT t p = true then c else addC (placesN s p k (c.length : Int)) c) else if hasT t p = true then remC (placesN s p k (c.length : Int)) c else c := rfl
  have hvT : lvT t p v = if 0 ≤ v then putT 16 t p v else if hasT t p = true then delT t p else t := rfl
  have HVC := hid hvC
  have HVT := hid hvT
  have HH := hid H1
  have HPB := hid hpb
  have HOK := hid hok
  have HLEN := hid hlen
  have HSL := hid hsl
  have HP := hid hp
  unfold CkGet at cG
  unfold LvPost
  generalize lvC s k c t p v = C' at *
  generalize lvT t p v = T' at *
  obtain ⟨D, hD⟩ : ∃ D, hasT t p = D := ⟨_, rfl⟩
  have HD := hid hD
  rw [hD] at cG HVC HVT
  clear H hb H1 hpb hok hlen hsl hp hvC hvT hD
  obtain ⟨⟨p1, p2⟩, p3⟩ := p
  simp only at HPB cG
  subst hw0
  have HT0 := hid HH.out.top
  go_enter Tryz.func22, Tryz.ntmps22
  go_wp2_with fail
  generalize w.alloc (.cells #[.int .u64 (p1 : Int), .int .u64 (p2 : Int), .int .i64 p3, .int .i64 o, .int .i64 v] 40) = w0 at *
  have y2 := HT0.out.cellv (i := 2) rfl
  have p0 := HPB.out.cellv (i := 0) rfl
  have p1' := HPB.out.cellv (i := 1) rfl
  have p2' := HPB.out.cellv (i := 2) rfl
  go_region_held3 (fun w' => w'.cell? ⟨b, 2, none⟩ = some (.pointer (some ⟨g, 0, none⟩)) ∧ w'.cell? ⟨w.heap.size, 0, none⟩ = some (.int .u64 (p1 : Int)) ∧ w'.cell? ⟨w.heap.size, 1, none⟩ = some (.int .u64 (p2 : Int)) ∧ w'.cell? ⟨w.heap.size, 2, none⟩ = some (.int .i64 p3)) (first | go_keep | (refine ⟨?_, ?_, ?_, ?_⟩ <;> assumption))
    (first
      | (with_reducible refine (cG.out _ (Below.refl _ _).drew).mono ?_
         rintro _ w1 ⟨u, rfl, hU, hb1'⟩
         have hb1 : Below w0.heap.size w0 w1 := (Below.refl _ _).drew.trans hb1'
         obtain ⟨Au, cu, hu, _, _, _⟩ := Owns.form hU
         subst hu
         have hT1' := HT0.out.below' hb1
         have hP1' := HPB.out.below' hb1
         have y2 := hT1'.cellv (i := 2) rfl
         have p0 := hP1'.cellv (i := 0) rfl
         have p1' := hP1'.cellv (i := 1) rfl
         have p2' := hP1'.cellv (i := 2) rfl))
  have HH1 := hid (HH.out.below hb1)
  have HP1 := hid (HPB.out.below' hb1)
  have HC1 := hid (HC0.out.trans' (Chg.of_below hb1 F))
  have hs1 := hb1.size
  clear hb1 hb1' hU cG HH HPB HT0 y2 p0 p1' p2' HC0
  have HTO := hid HH1.out.top
  by_cases hv : 0 ≤ v
  · rw [if_pos hv] at HVC HVT
    cases D
    · rw [if_neg (by decide)] at HVC
      have cA := hid (filter_add (HH1.out.below (Below.refl w1.heap.size w1).drew).flt ((p1, p2), p3) HP.out)
      have y1 := HTO.out.cellv (i := 1) rfl
      have q0 := HP1.out.cellv (i := 0) rfl
      have q1 := HP1.out.cellv (i := 1) rfl
      have q2 := HP1.out.cellv (i := 2) rfl
      have q4 := HP1.out.cellv (i := 4) rfl
      go_wp2_with fail
      refine wp_region_tail 6 (by kernel_rfl) (by kernel_rfl) ?_
      simp only [List.take_succ_cons, List.take_zero, List.drop_succ_cons, List.drop_zero]
      repeat still_step
      refine wpStill_nil ?_
      go_wp2_with fail
      refine cA.out.mono ?_
      rintro _ w2 ⟨rfl, hF2, hC2⟩
      have hF2' : Chg FF w1 w2 := (Chg.refl FF w1).drew.trans' hC2
      have HH2 := hid (HH1.out.turnF hF2 hF2')
      have HP2 := hid (HP1.out.chg hF2' (fun hz => by have := (HFF.out _ hz).1; omega))
      have HC2 := hid (HC1.out.trans hF2' (fun z _ hz => (HFF.out z hz).2.1))
      have hs2 := hF2'.size
      clear hF2 hF2' hC2 cA y1 q0 q1 q2 q4 HH1 HP1 HC1
      have cP := hid (ck_put16 (HH2.out.below (Below.refl w2.heap.size w2).drew).tab HOK.out HLEN.out ((p1, p2), p3) HP.out v)
      have y2 := HH2.out.top.cellv (i := 2) rfl
      have q0 := HP2.out.cellv (i := 0) rfl
      have q1 := HP2.out.cellv (i := 1) rfl
      have q2 := HP2.out.cellv (i := 2) rfl
      have q4 := HP2.out.cellv (i := 4) rfl
      go_wp2_with fail
      refine wp_region_tail 8 (by kernel_rfl) (by kernel_rfl) ?_
      simp only [List.take_succ_cons, List.take_zero, List.drop_succ_cons, List.drop_zero]
      repeat still_step
      refine wpStill_nil ?_
      go_wp2_with fail
      refine cP.out.mono ?_
      rintro _ w3 ⟨rfl, hT3, hC3⟩
      have hC3' : Chg TF w2 w3 := (Chg.refl TF w2).drew.trans' hC3
      have HH3 := hid (HH2.out.turnT (hT3.mono (fun z _ hz => hz)) hC3')
      have HC3 := hid (HC2.out.trans hC3' (fun z _ hz => (HTF.out z hz).2.1))
      clear hT3 hC3 hC3' cP y2 q0 q1 q2 q4 HH2 HP2 HC2
      go_wp2_with fail
      go_returns
      refine ⟨rfl, ?_, HC3.out⟩
      rw [HVC.out, HVT.out]
      refine ⟨f, g, _, _, HH3.out.mono fun z _ hz => ?_⟩
      rcases hz with hz | hz
      · exact .inl hz
      · exact .inr (by have := HSZ.out; omega)
    · rw [if_pos rfl] at HVC
      have cP := hid (ck_put16 (HH1.out.below (Below.refl w1.heap.size w1).drew).tab HOK.out HLEN.out ((p1, p2), p3) HP.out v)
      have y2 := HTO.out.cellv (i := 2) rfl
      have q0 := HP1.out.cellv (i := 0) rfl
      have q1 := HP1.out.cellv (i := 1) rfl
      have q2 := HP1.out.cellv (i := 2) rfl
      have q4 := HP1.out.cellv (i := 4) rfl
      go_wp2_with fail
      refine wp_region_tail 8 (by kernel_rfl) (by kernel_rfl) ?_
      simp only [List.take_succ_cons, List.take_zero, List.drop_succ_cons, List.drop_zero]
      repeat still_step
      refine wpStill_nil ?_
      go_wp2_with fail
      refine cP.out.mono ?_
      rintro _ w3 ⟨rfl, hT3, hC3⟩
      have hC3' : Chg TF w1 w3 := (Chg.refl TF w1).drew.trans' hC3
      have HH3 := hid (HH1.out.turnT (hT3.mono (fun z _ hz => hz)) hC3')
      have HC3 := hid (HC1.out.trans hC3' (fun z _ hz => (HTF.out z hz).2.1))
      clear hT3 hC3 hC3' cP y2 q0 q1 q2 q4 HH1 HP1 HC1
      go_wp2_with fail
      go_returns
      refine ⟨rfl, ?_, HC3.out⟩
      rw [HVC.out, HVT.out]
      refine ⟨f, g, _, _, HH3.out.mono fun z _ hz => ?_⟩
      rcases hz with hz | hz
      · exact .inl hz
      · exact .inr (by have := HSZ.out; omega)
  · rw [if_neg hv] at HVC HVT
    have q4 := HP1.out.cellv (i := 4) rfl
    cases D
    · rw [if_neg (by decide)] at HVC HVT
      go_wp2_with fail
      go_returns
      refine ⟨rfl, ?_, HC1.out⟩
      rw [HVC.out, HVT.out]
      exact ⟨f, g, _, _, HH1.out.mono fun z _ hz => .inl hz⟩
    · rw [if_pos rfl] at HVC HVT
      have cA := hid (filter_remove (HH1.out.below (Below.refl w1.heap.size w1).drew).flt ((p1, p2), p3) HP.out)
      have y1 := HTO.out.cellv (i := 1) rfl
      have q0 := HP1.out.cellv (i := 0) rfl
      have q1 := HP1.out.cellv (i := 1) rfl
      have q2 := HP1.out.cellv (i := 2) rfl
      go_wp2_with fail
      refine wp_region_tail 6 (by kernel_rfl) (by kernel_rfl) ?_
      simp only [List.take_succ_cons, List.take_zero, List.drop_succ_cons, List.drop_zero]
      repeat still_step
      refine wpStill_nil ?_
      go_wp2_with fail
      refine cA.out.mono ?_
      rintro _ w2 ⟨rfl, hF2, hC2⟩
      have hF2' : Chg FF w1 w2 := (Chg.refl FF w1).drew.trans' hC2
      have HH2 := hid (HH1.out.turnF hF2 hF2')
      have HP2 := hid (HP1.out.chg hF2' (fun hz => by have := (HFF.out _ hz).1; omega))
      have HC2 := hid (HC1.out.trans hF2' (fun z _ hz => (HFF.out z hz).2.1))
      have hs2 := hF2'.size
      clear hF2 hF2' hC2 cA y1 q0 q1 q2 q4 HH1 HP1 HC1
      have hst8 : t.st.length ≤ 100000000 := by have := HLEN.out; have := HSL.out; omega
      have cP := hid (ck_delete (HH2.out.below (Below.refl w2.heap.size w2).drew).tab HOK.out hst8 ((p1, p2), p3) HP.out)
      have y2 := HH2.out.top.cellv (i := 2) rfl
      have q0 := HP2.out.cellv (i := 0) rfl
      have q1 := HP2.out.cellv (i := 1) rfl
      have q2 := HP2.out.cellv (i := 2) rfl
      go_wp2_with fail
      refine wp_region_tail 6 (by kernel_rfl) (by kernel_rfl) ?_
      simp only [List.take_succ_cons, List.take_zero, List.drop_succ_cons, List.drop_zero]
      repeat still_step
      refine wpStill_nil ?_
      go_wp2_with fail
      refine cP.out.mono ?_
      rintro _ w3 ⟨rfl, hT3, hC3⟩
      have hC3' : Chg TF w2 w3 := (Chg.refl TF w2).drew.trans' hC3
      have HH3 := hid (HH2.out.turnT (hT3.mono (fun z _ hz => .inl hz)) hC3')
      have HC3 := hid (HC2.out.trans hC3' (fun z _ hz => (HTF.out z hz).2.1))
      clear hT3 hC3 hC3' cP y2 q0 q1 q2 HH2 HP2 HC2
      go_wp2_with fail
      go_returns
      refine ⟨rfl, ?_, HC3.out⟩
      rw [HVC.out, HVT.out]
      refine ⟨f, g, _, _, HH3.out.mono fun z _ hz => ?_⟩
      rcases hz with hz | hz
      · exact .inl hz
      · exact .inr (by have := HSZ.out; omega)


end Go.Proofs.YtpjjijhojcfmnaaGreat
