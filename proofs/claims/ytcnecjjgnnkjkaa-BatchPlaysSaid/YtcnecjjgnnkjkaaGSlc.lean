/-
  Slices of routes that a call owns: append, copy, with the blocks that they lie in. No condition.
  The library's sort over rows of structs, told of lists: a permutation that stands in order. No condition but that the comparison is an order.
  The order of routes: its comparison lays blocks and draws, and turns nothing; the library's sort by it. No condition but that words are words.
  Rows of routes taken apart; clear; two rows in order with the same routes are one. No condition.
-/
import Derived.Test.YtcnecjjgnnkjkaaGRef
import Derived.Laws.IdiomCopy
import Derived.Lib.Overlaps
import Derived.Lib.AppendZerosOnto
import Derived.Lib.AppendZeros
import Derived.Shelf.SlSortCmp.WholeK
import Derived.Shelf.SlSortCmp.NoneTotal
import Derived.Test.YtcnecjjgnnkjkaaLay
import Derived.Test.YtcnecjjgnnkjkaaGTrie
import Derived.Deep.RegionHeld3
import Derived.Test.YtcnecjjgnnkjkaaGBase
import Derived.Test.YtcnecjjgnnkjkaaOwnIn
namespace Go.Proofs.Ytcnecjjgnnkjkaa
open Go.RowKit
set_option linter.unusedVariables false
set_option linter.unusedSimpArgs false

theorem setCells_chg (g : Nat) : ∀ (vs : List Value) (o : Nat) (w : World), Chg (· = g) w (w.setCells g o vs)
  | [], _, w => Chg.refl _ _
  | v :: vs, o, w => (Chg.store w g o v).trans' (setCells_chg g vs (o + 1) _)
theorem Blk.setCells {t : TypeId} {g : Nat} : ∀ (vs : List Value) (o : Nat) {w : World} {cs : List Value}, Blk w g t cs → o + vs.length ≤ cs.length → Blk (w.setCells g o vs) g t (cs.take o ++ vs ++ cs.drop (o + vs.length))
  | [], o, w, cs, h, _ => by
    have e : cs.take o ++ [] ++ cs.drop (o + 0) = cs := by simp
    show Blk w g t _
    rw [show ([] : List Value).length = 0 from rfl, e]; exact h
  | v :: vs, o, w, cs, h, hl => by
    have h1 := Blk.setCells vs (o + 1) (h.set o v) (by simp only [List.length_set, List.length_cons] at *; omega)
    have hlo : o < cs.length := by simp only [List.length_cons] at hl; omega
    have e : (cs.set o v).take (o + 1) = cs.take o ++ [v] := by
      rw [List.take_succ_eq_append_getElem (by simpa using hlo), List.take_set_of_le (Nat.le_refl _)]; simp
    have e2 : (cs.set o v).drop (o + 1 + vs.length) = cs.drop (o + (v :: vs).length) := by
      rw [List.drop_set_of_lt (by omega)]; congr 1; simp only [List.length_cons]; omega
    rw [e, e2] at h1
    show Blk ((w.setCell ⟨g, o, none⟩ v).setCells g (o + 1) vs) g t _
    rw [show cs.take o ++ (v :: vs) = cs.take o ++ [v] ++ vs by simp]
    exact h1

section
variable {P : Program}
theorem run_copy_k (w : World) (dT sT ty elem : TypeId) (k : Nat) (g o dLen dCap : Nat) (a : Addr) (sLen sCap : Nat) (cs cur : List Value) (t : TypeId)
    (hu : P.underlying dT = some (.slice elem)) (hs : (P.info? elem).map (·.size) = some k) (n : Nat) (hm : Nat.min sLen dLen = n) (hn : cs.length = n * k)
    (hsrc : ∀ j v, cs[j]? = some v → w.cell? (a.add j) = some v) (hB : Blk w g t cur) (hfit : o + cs.length ≤ cur.length) (h1 : ∀ v ∈ cs, v.oneCell' = true) :
    (Builtin.copy_ #[dT, sT] ty #[.slice (some ⟨g, o, none⟩) dLen dCap, .slice (some a) sLen sCap]).run P w = .ok (goInt n) (w.setCells g o cs) := by
  have hl := run_loadCells_list (P := P) w a cs hsrc
  have hst := run_storeCells_cells (P := P) g o cs 0 w
    (fun j hj => by rw [hB.cell, List.getElem?_eq_getElem (by omega)]; rfl) (fun j hj => hB.frozen _) h1
  simp only [Nat.add_zero] at hst
  rw [hn] at hl
  cases hq : P.info? elem with
  | none => simp [hq] at hs
  | some i =>
    have hi : i.size = k := by simpa [hq] using hs
    simp [Builtin.copy_, run_underlying hu, Builtin.lenOf, Builtin.firstCells, sizeOf, typeInfo, hq, hi, hm, hl, hst]
theorem wp_copy_k {o : Oper} {a : Act} {w : World} {K : Act → World → Prop} {Q : Exit → Act → World → Prop} (d s : Operand) (dT sT : TypeId) (ho : o.op = .call { callee := .builtin .copy, args := #[d, s], argTypes := #[dT, sT] })
    (elem : TypeId) (k : Nat) (hu : P.underlying dT = some (.slice elem)) (hs : (P.info? elem).map (·.size) = some k) (g off dLen dCap : Nat) (ad : Addr) (sLen sCap : Nat) (cs cur : List Value) (t : TypeId)
    (hd : a.eval d = .slice (some ⟨g, off, none⟩) dLen dCap) (hx : a.eval s = .slice (some ad) sLen sCap) (n : Nat) (hm : Nat.min sLen dLen = n) (hn : cs.length = n * k)
    (hsrc : ∀ j v, cs[j]? = some v → w.cell? (ad.add j) = some v) (hB : Blk w g t cur) (hfit : off + cs.length ≤ cur.length) (h1 : ∀ v ∈ cs, v.oneCell' = true)
    (h : ∀ w', Blk w' g t (cur.take off ++ cs ++ cur.drop (off + cs.length)) → Chg (· = g) w w' → K (a.put o.dst (goInt n)) w') : o.wp P a w K Q := by
  have hr := run_copy_k (P := P) w dT sT o.type elem k g off dLen dCap ad sLen sCap cs cur t hu hs n hm hn hsrc hB hfit h1
  unfold Oper.wp execOp
  simp only [ho, resolve, invoke, builtin, Sem.run_bind, Sem.run_pure, Result.andThen_ok, List.map_toArray, List.map_cons, List.map_nil, hd, hx, hr]
  exact h _ (hB.setCells cs off hfit) (setCells_chg g cs off w)
theorem wpList_copy_k {ops : Array Oper} {rest : List Oper} {o : Oper} {a : Act} {w : World} {Q : Exit → Act → World → Prop} (hgd : o.guard = none) (d s : Operand) (dT sT : TypeId) (ho : o.op = .call { callee := .builtin .copy, args := #[d, s], argTypes := #[dT, sT] })
    (elem : TypeId) (k : Nat) (hu : P.underlying dT = some (.slice elem)) (hs : (P.info? elem).map (·.size) = some k) (g off dLen dCap : Nat) (ad : Addr) (sLen sCap : Nat) (cs cur : List Value) (t : TypeId)
    (hd : a.eval d = .slice (some ⟨g, off, none⟩) dLen dCap) (hx : a.eval s = .slice (some ad) sLen sCap) (n : Nat) (hm : Nat.min sLen dLen = n) (hn : cs.length = n * k)
    (hsrc : ∀ j v, cs[j]? = some v → w.cell? (ad.add j) = some v) (hB : Blk w g t cur) (hfit : off + cs.length ≤ cur.length) (h1 : ∀ v ∈ cs, v.oneCell' = true)
    (h : ∀ w', Blk w' g t (cur.take off ++ cs ++ cur.drop (off + cs.length)) → Chg (· = g) w w' → wpList P ops Q rest (a.put o.dst (goInt n)) w') : wpList P ops Q (o :: rest) a w :=
  wpList_plain hgd fun _ hK => wp_copy_k d s dT sT ho elem k hu hs g off dLen dCap ad sLen sCap cs cur t hd hx n hm hn hsrc hB hfit h1 fun w' h2 h3 => hK _ _ (h w' h2 h3)

end
/-- What a row reads behind a change of another row, or of its own. -/
theorem Owns.blk' {w : World} {base : Nat} {e : TypeId} {size n g cap : Nat} {xs : List Value} (h : Owns w base e size (.slice (some ⟨g, 0, none⟩) n cap) n xs) :
    ∃ cur : List Value, Blk w g e cur ∧ cur.length = cap * size ∧ n ≤ cap ∧ cap ≤ maxLen ∧ base ≤ g ∧ cur.take (n * size) = xs ∧ xs.length = n * size := by
  obtain ⟨h1, h2⟩ := h
  rcases h2 with ⟨h2, _⟩ | ⟨g', cap', cur, h2, hb, hg, hnc, hcm, hcs, ht⟩
  · injection h2 with h2; cases h2
  · injection h2 with h2 h3 h4
    injection h2 with h2
    injection h2 with h2
    subst h2 h4
    exact ⟨cur.toList, by unfold Blk; simpa using hg, by simpa using hcs, hnc, hcm, hb, ht, h1⟩
theorem Owns.of_blk {w : World} {base : Nat} {e : TypeId} {size n g cap : Nat} {xs cur : List Value} (h : Blk w g e cur) (hb : base ≤ g) (hl : cur.length = cap * size) (hn : n ≤ cap) (hm : cap ≤ maxLen) (hx : cur.take (n * size) = xs) (hxl : xs.length = n * size) :
    Owns w base e size (.slice (some ⟨g, 0, none⟩) n cap) n xs := ⟨hxl, .inr ⟨g, cap, cur.toArray, rfl, hb, h, hn, hm, by simpa using hl, by simpa using hx⟩⟩

theorem Owns.blk {w : World} {base : Nat} {e : TypeId} {size n g cap : Nat} {xs : List Value} (h : Owns w base e size (.slice (some ⟨g, 0, none⟩) n cap) n xs) :
    ∃ cur : List Value, Blk w g e cur ∧ cur.length = cap * size ∧ n ≤ cap ∧ cap ≤ maxLen ∧ base ≤ g ∧ cur.take (n * size) = xs ∧ xs.length = n * size := h.blk'

end Go.Proofs.Ytcnecjjgnnkjkaa

namespace Go.Proofs.Ytcnecjjgnnkjkaa
open Go.RowKit Go.Shelf Go.Lib Go.Sort
set_option linter.unusedVariables false
set_option linter.unusedSimpArgs false

section
variable {P : Program} {α : Type} [Inhabited α] {en : α → List Value} {k : Nat}
theorem flatK_get (hl : ∀ a, (en a).length = k) (h0 : 0 < k) (d : Array α) (j : Nat) (hj : j < d.size * k) : (d.toList.flatMap en)[j]? = some (flatK en k d)[j]! := by
  have hq : j / k < d.size := (Nat.div_lt_iff_lt_mul h0).2 hj
  have hr := Nat.mod_lt j h0
  have hx : d.toList[j / k]? = some d[j / k]! := by
    rw [getElem!_pos d _ hq, Array.getElem?_toList, Array.getElem?_eq_getElem hq]
  have h1 := flat_get hl d.toList (j / k) _ hx (j % k) hr
  rw [Nat.mul_comm, Nat.div_add_mod] at h1
  have hlt : j % k < (en d[j / k]!).length := by rw [hl]; exact hr
  have e := List.getElem?_eq_getElem hlt
  rw [h1, get_flatK _ _ _ _ hj, e, List.getElem!_of_getElem? e]
theorem holds_own {w : World} {g : Nat} {t : TypeId} {cur : List Value} (hl : ∀ a, (en a).length = k) (h0 : 0 < k) (d : Array α) (hB : Blk w g t cur) (ht : cur.take (d.size * k) = d.toList.flatMap en) : HoldsK en k w g 0 d := by
  intro j hj
  rw [size_flatK] at hj
  refine ⟨?_, hB.frozen _⟩
  rw [Nat.zero_add]
  refine hB.cellv ?_
  have h1 := flatK_get hl h0 d j hj
  rw [← ht, List.getElem?_take_of_lt hj] at h1
  exact h1
theorem blk_sorted {w : World} {g n : Nat} {t : TypeId} {os : Array Obj} {cur : List Value} (hl : ∀ a, (en a).length = k) (h0 : 0 < k) (d : Array α) (hB : Blk w g t cur) (hd : d.size * k ≤ cur.length) :
    ∃ cur' : List Value, Blk (sortWorldK en k w g 0 n d os) g t cur' ∧ cur'.length = cur.length ∧ cur'.take (d.size * k) = d.toList.flatMap en := by
  have hg := hB.lt
  refine ⟨(putCells id 0 (flatK en k d) cur.toArray).toList, ?_, by simp [putCells], ?_⟩
  · unfold Blk sortWorldK putRowK at *
    rw [heap_grow_old _ _ (by simpa using hg)]
    simp [putRow, mapBlock, Sort.ahead, Array.getElem?_modify, hB, onCells]
  · apply List.ext_getElem?
    intro j
    by_cases hj : j < d.size * k
    · rw [List.getElem?_take_of_lt hj, Array.getElem?_toList, flatK_get hl h0 d j hj]
      simp [putCells, hj, show j < cur.length by omega]
    · rw [List.getElem?_take_eq_none (by omega), List.getElem?_eq_none (by rw [flat_len hl]; simpa using hj)]
theorem chg_sorted {w : World} {g n : Nat} {os : Array Obj} (d : Array α) : Chg (· = g) w (sortWorldK en k w g 0 n d os) := by
  refine ⟨rfl, rfl, rfl, by simp [sortWorldK, putRowK], fun i hi hne => ?_⟩
  unfold sortWorldK putRowK
  rw [heap_grow_old _ _ (by simpa using hi)]
  have : g ≠ i := fun e => hne e.symm
  simp [putRow, mapBlock, Sort.ahead, Array.getElem?_modify, this]
def SortPost (base : Nat) (e : TypeId) (en : α → List Value) (k : Nat) (cf : α → α → Int) (w : World) (v : Value) (l : List α) (r : Ending) (w' : World) : Prop :=
  r = .returned (.tuple #[]) ∧ ∃ l' : List α, l'.Perm l ∧ l'.Pairwise (fun x y => ltOf cf y x = false) ∧ Owns w' base e k v l'.length (l'.flatMap en) ∧ Chg (fun b => v.ownBlock = some b) w w'
theorem sortK {ρ : Ren} (L : SlLaysF0.n6 P ρ) (hk : ∀ x, (en x).length = k) (h0 : 0 < k) (aE : ∀ w, (isAgg (ρ.t 24)).run P w = .ok true w) (zE : ∀ w, (Go.sizeOf (ρ.t 24)).run P w = .ok k w) (h1 : ∀ x, ∀ v ∈ en x, v.oneCell' = true)
    (cf : α → α → Int) (hO : SWO (ltOf cf)) (g : Nat) (eg : ∀ args w, (callFunc g args).run P w = .ok (.enter g args) w)
    (hcmp : ∀ x y W, Calls P g #[.agg (en x).toArray, .agg (en y).toArray] W fun e w' => e = .returned (.int .i64 (cf x y)) ∧ ∃ q os', w' = grow (W.drewN q) os')
    (w : World) (base : Nat) (e : TypeId) (v : Value) (l : List α) (hv : Owns w base e k v l.length (l.flatMap en)) (hlen : l.length ≤ 100000000) :
    Calls P (ρ.f 6) #[v, .func (.func g) #[] #[]] w (SortPost base e en k cf w v l) := by
  obtain ⟨A, cap, rfl, _, _, hf⟩ := Owns.form hv
  by_cases hz : l = []
  · subst hz
    refine (AnyF.slices_SortFunc_none L A cap _ w).mono ?_
    rintro _ _ ⟨rfl, rfl⟩
    exact ⟨rfl, [], List.Perm.refl _, .nil, hv, Chg.refl _ _⟩
  · have hpos : 0 < l.length := List.length_pos_iff.2 hz
    obtain ⟨b, rfl, _⟩ := hf hpos
    obtain ⟨cur, hB, hcl, hnc, hcm, hbb, htk, _⟩ := hv.blk'
    have hH := holds_own (k := k) hk h0 l.toArray hB (by simpa using htk)
    have hcon := AnyQ.slices_SortFunc L k aE zE en hk h1 cf hO g #[] b 0 cap l.toArray w eg (fun m os dk hs x y => hcmp x y _) hH hB.lt (by simp; omega)
    refine hcon.mono ?_
    rintro _ _ ⟨rfl, d', n, os, hp, hs, rfl⟩
    have hsz : d'.size = l.length := by simpa using hp.1
    obtain ⟨cur', c1, c2, c3⟩ := blk_sorted (n := n) (os := os) hk h0 d' hB (by rw [hsz, hcl]; exact Nat.mul_le_mul_right _ hnc)
    have hll : d'.toList.length = l.length := by simpa using hsz
    refine ⟨rfl, d'.toList, ?_, ?_, ?_, chg_sorted d' |>.mono fun z _ e => by subst e; rfl⟩
    · have h3 := hp.2.2
      rw [Array.extract_eq_self_of_le (by simp; omega), Array.extract_eq_self_of_le (by simp)] at h3
      simpa using h3
    · rw [List.pairwise_iff_getElem]
      intro i j hi hj hij
      have h4 := hs i j (Nat.zero_le _) hij (by simp; simp at hj; omega)
      simp at hi hj
      rw [getElem!_pos d' _ hj, getElem!_pos d' _ hi] at h4
      simpa using h4
    · rw [hll]
      refine ⟨by rw [flat_len hk, hll], .inr ⟨b, cap, cur'.toArray, rfl, hbb, c1, hnc, hcm, by simp; rw [c2, hcl], ?_⟩⟩
      rw [← hsz]; simpa using c3
end

end Go.Proofs.Ytcnecjjgnnkjkaa

namespace Go.Proofs.Ytcnecjjgnnkjkaa
open Go.RowKit Go.Shelf Go.Lib Go.Sort
set_option linter.unusedVariables false
set_option linter.unusedSimpArgs false
set_option maxRecDepth 100000

/-- Blocks were laid, answers were drawn, nothing else. -/
def Grown2 (w w' : World) : Prop := ∃ q os, w' = grow (w.drewN q) os
theorem Grown2.refl (w : World) : Grown2 w w := ⟨0, #[], by simp [grow_empty]; rfl⟩
theorem Grown2.alloc {w w' : World} (h : Grown2 w w') (o : Obj) : Grown2 w (w'.alloc o) := by
  obtain ⟨q, os, rfl⟩ := h
  exact ⟨q, os ++ #[o], by rw [alloc_eq_grow, grow_grow]⟩
theorem Grown2.drew {w w' : World} (h : Grown2 w w') : Grown2 w w'.drew := by
  obtain ⟨q, os, rfl⟩ := h
  exact ⟨q + 1, os, rfl⟩
theorem Grown2.trans {a b c : World} (h : Grown2 a b) (k : Grown2 b c) : Grown2 a c := by
  obtain ⟨q, os, rfl⟩ := h
  obtain ⟨q2, os2, rfl⟩ := k
  refine ⟨q + q2, os ++ os2, ?_⟩
  rw [← grow_grow]
  show grow ((grow (a.drewN q) os).drewN q2) os2 = grow (grow (a.drewN (q + q2)) os) os2
  congr 1
  simp [World.drewN, grow, Nat.add_assoc]
theorem Grown2.below {w w' : World} (h : Grown2 w w') : Below w.heap.size w w' := by
  obtain ⟨q, os, rfl⟩ := h
  exact ⟨rfl, rfl, rfl, by simp [grow, World.drewN], fun i hi => by rw [heap_grow_old _ _ (by simpa [World.drewN] using hi)]; rfl⟩
def rtCmp (x y : Rt) : Int := x.1.cmp y.1
theorem rtCmp_lt (x y : Rt) : ltOf rtCmp x y = decide (x.1.lt y.1) := by unfold ltOf rtCmp; simp only [cmp_lt]
theorem rtCmp_swo : SWO (ltOf rtCmp) where
  irrefl x := by rw [rtCmp_lt]; exact decide_eq_false (pf_lt_irrefl _)
  trans x y z h1 h2 := by
    rw [rtCmp_lt] at *
    exact decide_eq_true (pf_lt_trans (of_decide_eq_true h1) (of_decide_eq_true h2))
  ntrans x y z h1 h2 := by
    rw [rtCmp_lt] at *
    have h1 := of_decide_eq_false h1
    have h2 := of_decide_eq_false h2
    refine decide_eq_false fun h => ?_
    unfold Pf.lt at *
    omega
/-- Of keys that are all unlike: in strict order. -/
theorem strict_of {l l' : List Rt} (hp : l'.Perm l) (hs : l'.Pairwise (fun x y => ltOf rtCmp y x = false)) (h1 : ∀ p, l.countP (fun r => decide (r.1 = p)) ≤ 1) : l'.Pairwise (fun x y => x.1.lt y.1) := by
  rw [List.pairwise_iff_getElem] at hs ⊢
  intro i j hi hj hij
  have h := hs i j hi hj hij
  rw [rtCmp_lt] at h
  have h := of_decide_eq_false h
  by_cases e : l'[i].1 = l'[j].1
  · exfalso
    have hc : 2 ≤ l'.countP (fun r => decide (r.1 = l'[i].1)) := by
      have e2 : l' = l'.take j ++ l'[j] :: l'.drop (j + 1) := by rw [← List.drop_eq_getElem_cons hj, List.take_append_drop]
      have hm : l'[i] ∈ l'.take j := by
        rw [List.mem_iff_getElem]
        exact ⟨i, by rw [List.length_take]; omega, by rw [List.getElem_take]⟩
      have hp1 : 0 < (l'.take j).countP (fun r => decide (r.1 = l'[i].1)) := List.countP_pos_iff.2 ⟨_, hm, by simp⟩
      have e3 : l'.countP (fun r => decide (r.1 = l'[i].1)) = (l'.take j).countP (fun r => decide (r.1 = l'[i].1)) + (l'[j] :: l'.drop (j + 1)).countP (fun r => decide (r.1 = l'[i].1)) := by
        rw [← List.countP_append, ← e2]
      rw [e3, List.countP_cons, if_pos (by simp [e])]
      omega
    rw [hp.countP_eq] at hc
    have := h1 l'[i].1
    omega
  · generalize l'[i] = a at *
    generalize l'[j] = b at *
    obtain ⟨⟨⟨a1, a2⟩, a3⟩, a4⟩ := a
    obtain ⟨⟨⟨b1, b2⟩, b3⟩, b4⟩ := b
    unfold Pf.lt at *
    simp only [Prod.mk.injEq] at *
    omega

end Go.Proofs.Ytcnecjjgnnkjkaa

namespace Go.Proofs.Ytcnecjjgnnkjkaa
open Go.RowKit
set_option linter.unusedVariables false
set_option linter.unusedSimpArgs false
set_option maxRecDepth 100000

theorem rtsV_app (l k : List Rt) : rtsV (l ++ k) = rtsV l ++ rtsV k := by simp [rtsV]
theorem rtsV_len (l : List Rt) : (rtsV l).length = l.length * 4 := flat_len rtEn_length l
theorem rtsV_take (l : List Rt) (i : Nat) : (rtsV l).take (i * 4) = rtsV (l.take i) := by
  induction l generalizing i with
  | nil => simp [rtsV]
  | cons x l ih =>
    cases i with
    | zero => simp [rtsV]
    | succ i =>
      show (rtEn x ++ rtsV l).take ((i + 1) * 4) = rtEn x ++ rtsV (l.take i)
      rw [show (i + 1) * 4 = (rtEn x).length + i * 4 by rw [rtEn_length]; omega, List.take_length_add_append, ih]
theorem rtsV_drop (l : List Rt) (i : Nat) : (rtsV l).drop (i * 4) = rtsV (l.drop i) := by
  induction l generalizing i with
  | nil => simp [rtsV]
  | cons x l ih =>
    cases i with
    | zero => simp [rtsV]
    | succ i =>
      show (rtEn x ++ rtsV l).drop ((i + 1) * 4) = rtsV (l.drop i)
      rw [show (i + 1) * 4 = (rtEn x).length + i * 4 by rw [rtEn_length]; omega, List.drop_length_add_append, ih]
theorem cells_rts (l : List Rt) : ∀ u ∈ rtsV l, u.oneCell' = true := by
  intro u hu; obtain ⟨x, _, hx⟩ := List.mem_flatMap.1 hu; exact cells_rt x u hx
section
variable {P : Program} {ops : Array Oper} {rest : List Oper} {o : Oper} {a : Act} {Q : Exit → Act → World → Prop} {w : World}
theorem setRow_chg (w : World) (g : Nat) (cs : Array Value) : Chg (· = g) w (w.setRow g cs) := ⟨rfl, rfl, rfl, by simp [World.setRow], fun i _ hn => setRow_other w g i cs hn⟩
theorem wpList_append_room (hgd : o.guard = none) (s x : Operand) (t : TypeId) (ho : o.op = .call { callee := .builtin .append, args := #[s, x], argTypes := #[t, t] })
    (e : TypeId) (k : Nat) (ht : P.underlying t = some (.slice e)) (hinfo : (P.info? e).map (·.size) = some k) (g n cap : Nat) (cur : List Value) (hs : a.eval s = .slice (some ⟨g, 0, none⟩) n cap) (hB : Blk w g e cur)
    (ad : Addr) (m c : Nat) (hx : a.eval x = .slice (some ad) m c) (news : List Value) (hl : news.length = m * k) (hnews : ∀ j u, news[j]? = some u → w.cell? (ad.add j) = some u) (h1 : ∀ u ∈ news, u.oneCell' = true) (hroom : n + m ≤ cap) (hfit : n * k + news.length ≤ cur.length)
    (h : ∀ w', Blk w' g e (cur.take (n * k) ++ news ++ cur.drop (n * k + news.length)) → Chg (· = g) w w' → wpList P ops Q rest (a.put o.dst (.slice (some ⟨g, 0, none⟩) (n + m) cap)) w') : wpList P ops Q (o :: rest) a w := by
  refine wpList_plain hgd fun K hK => ?_
  obtain ⟨i, hi, hsi⟩ := Option.map_eq_some_iff.1 hinfo
  subst hsi
  have hr := run_append_room (P := P) w t o.type e i ht hi g n cap cur.toArray hB ad m c news hl hnews h1 hroom (by simpa using hfit)
  unfold Oper.wp
  simp only [execOp, ho, resolve, invoke, builtin, Sem.run_bind, Sem.run_pure, Result.andThen_ok, List.map_toArray, List.map_cons, List.map_nil, hs, hx, hr]
  exact hK _ _ (h _ (setRow_heap w g cur.toArray _ e _ hB) (setRow_chg w g _))
theorem wpList_clear_k (hgd : o.guard = none) (s : Operand) (t : TypeId) (ho : o.op = .call { callee := .builtin .clear, args := #[s], argTypes := #[t] })
    (e : TypeId) (ht : P.underlying t = some (.slice e)) (z : Value) (hz : ∀ w, (zeroValue e).run P w = .ok z w) (g off n c : Nat) (hs : a.eval s = .slice (some ⟨g, off, none⟩) (n + 1) c) (cur : List Value) (te : TypeId) (hB : Blk w g te cur)
    (zs : List Value) (hzs : (Builtin.zeroCells z.cells (n + 1)).toList = zs) (hfit : off + zs.length ≤ cur.length) (h1 : ∀ v ∈ zs, v.oneCell' = true)
    (h : ∀ w', Blk w' g te (cur.take off ++ zs ++ cur.drop (off + zs.length)) → Chg (· = g) w w' → wpList P ops Q rest (a.put o.dst (.tuple #[])) w') : wpList P ops Q (o :: rest) a w := by
  refine wpList_plain hgd fun K hK => ?_
  have hst := run_storeCells_cells (P := P) g off zs 0 w (fun j hj => by rw [hB.cell, List.getElem?_eq_getElem (by omega)]; rfl) (fun j hj => hB.frozen _) h1
  simp only [Nat.add_zero] at hst
  have hr : (Builtin.clear_ #[t] o.type #[.slice (some ⟨g, off, none⟩) (n + 1) c]).run P w = .ok (.tuple #[]) (w.setCells g off zs) := by
    simp [Builtin.clear_, run_underlying ht, hz, hzs, hst]
  unfold Oper.wp
  simp only [execOp, ho, resolve, invoke, builtin, Sem.run_bind, Sem.run_pure, Result.andThen_ok, List.map_toArray, List.map_cons, List.map_nil, hs, hr]
  exact hK _ _ (h _ (hB.setCells zs off hfit) (setCells_chg g zs off w))
end
theorem ord_unique : ∀ {l k : List Rt}, l.Pairwise (fun x y => x.1.lt y.1) → k.Pairwise (fun x y => x.1.lt y.1) → (∀ r, r ∈ l ↔ r ∈ k) → l = k
  | [], [], _, _, _ => rfl
  | [], y :: k, _, _, h => by have := (h y).2 (by simp); simp at this
  | x :: l, [], _, _, h => by have := (h x).1 (by simp); simp at this
  | x :: l, y :: k, hl, hk, h => by
    rw [List.pairwise_cons] at hl hk
    have hxy : x = y := by
      rcases List.mem_cons.1 ((h x).1 (by simp)) with e | e
      · exact e
      · rcases List.mem_cons.1 ((h y).2 (by simp)) with e2 | e2
        · exact e2.symm
        · exact absurd (hl.1 y e2) (pf_lt_asymm (hk.1 x e))
    subst hxy
    rw [ord_unique hl.2 hk.2 fun r => ?_]
    constructor
    · intro hr
      rcases List.mem_cons.1 ((h r).1 (by simp [hr])) with e | e
      · subst e; exact absurd (hl.1 _ hr) (pf_lt_irrefl _)
      · exact e
    · intro hr
      rcases List.mem_cons.1 ((h r).2 (by simp [hr])) with e | e
      · subst e; exact absurd (hk.1 _ hr) (pf_lt_irrefl _)
      · exact e

end Go.Proofs.Ytcnecjjgnnkjkaa
