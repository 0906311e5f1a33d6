/-
  Slices of routes that a call owns: append, copy, with the blocks that they lie in. No condition.
  The library's sort over rows of structs, told of lists: a permutation that stands in order. No condition but that the comparison is an order.
  The order of routes: its comparison lays blocks and draws, and turns nothing; the library's sort by it; the library's search by it. No condition but that words are words.
  The library's search in routes that stand in order. No condition but that words are words.
  The contract of slices.Insert at a slice of routes that a call owns, of one route that lies in another block. No condition but that the place is one of the slice's.
  The contract of slices.Delete at a slice of routes that a call owns, of one route. No condition but that the place is one of the slice's.
  The table of buckets in the heap; its two places of a key, its other place, its search in the stash. No condition but that words are words.
  A table's stash in order: where a key is or would be, what laying, replacing and deleting there makes. Plain lists. No condition.
  A table's search in its stash, and giving a key that is there another value. No condition but that words are words, and that the stash is no longer than a hundred million.
  All keys of a table, bucket by bucket. No condition but that there are no more than a hundred million.
  A table made, and made anew with twice as many buckets (what Put does is given). No condition but that there are no more than fifty million keys.
-/
import Derived.Test.YtpjjijhojcfmnaaGreatGRef
import Derived.Laws.IdiomCopy
import Derived.Lib.Overlaps
import Derived.Lib.AppendZerosOnto
import Derived.Lib.AppendZeros
import Derived.Shelf.SlSortCmp.WholeK
import Derived.Shelf.SlSortCmp.NoneTotal
import Derived.Test.YtpjjijhojcfmnaaGreatLay
import Derived.Test.YtpjjijhojcfmnaaGreatGTrie
import Derived.Test.YtpjjijhojcfmnaaGreatGBuck
import Derived.Deep.RegionHeld3
import Derived.Test.YtpjjijhojcfmnaaGreatGBase
namespace Go.Proofs.YtpjjijhojcfmnaaGreat
open Go.RowKit
set_option linter.unusedVariables false
set_option linter.unusedSimpArgs false

theorem setCells_chg (g : Nat) : ∀ (vs : List Value) (o : Nat) (w : World), Chg (· = g) w (w.setCells g o vs)
  | [], _, w => Chg.refl _ _
  | v :: vs, o, w => (Chg.store w g o v).trans' (setCells_chg g vs (o + 1) _)
theorem Blk.setCells {t : TypeId} {g : Nat} : ∀ (vs : List Value) (o : Nat) {w : World} {cs : List Value}, Blk w g t cs → o + vs.length ≤ cs.length → Blk (w.setCells g o vs) g t (cs.take o ++ vs ++ cs.drop (o + vs.length))
  | [], o, w, cs, h, _ => by
    have e : cs.take o ++ [] ++ cs.drop (o + 0) = cs := by simp
    show Blk w g t _
    rw [show ([] : List Value).length = 0 from rfl, e]; exact h
  | v :: vs, o, w, cs, h, hl => by
    have h1 := Blk.setCells vs (o + 1) (h.set o v) (by simp only [List.length_set, List.length_cons] at *; omega)
    have hlo : o < cs.length := by simp only [List.length_cons] at hl; omega
    have e : (cs.set o v).take (o + 1) = cs.take o ++ [v] := by
      rw [List.take_succ_eq_append_getElem (by simpa using hlo), List.take_set_of_le (Nat.le_refl _)]; simp
    have e2 : (cs.set o v).drop (o + 1 + vs.length) = cs.drop (o + (v :: vs).length) := by
      rw [List.drop_set_of_lt (by omega)]; congr 1; simp only [List.length_cons]; omega
    rw [e, e2] at h1
    show Blk ((w.setCell ⟨g, o, none⟩ v).setCells g (o + 1) vs) g t _
    rw [show cs.take o ++ (v :: vs) = cs.take o ++ [v] ++ vs by simp]
    exact h1

section
variable {P : Program}
theorem run_copy_k (w : World) (dT sT ty elem : TypeId) (k : Nat) (g o dLen dCap : Nat) (a : Addr) (sLen sCap : Nat) (cs cur : List Value) (t : TypeId)
    (hu : P.underlying dT = some (.slice elem)) (hs : (P.info? elem).map (·.size) = some k) (n : Nat) (hm : Nat.min sLen dLen = n) (hn : cs.length = n * k)
    (hsrc : ∀ j v, cs[j]? = some v → w.cell? (a.add j) = some v) (hB : Blk w g t cur) (hfit : o + cs.length ≤ cur.length) (h1 : ∀ v ∈ cs, v.oneCell' = true) :
    (Builtin.copy_ #[dT, sT] ty #[.slice (some ⟨g, o, none⟩) dLen dCap, .slice (some a) sLen sCap]).run P w = .ok (goInt n) (w.setCells g o cs) := by
  have hl := run_loadCells_list (P := P) w a cs hsrc
  have hst := run_storeCells_cells (P := P) g o cs 0 w
    (fun j hj => by rw [hB.cell, List.getElem?_eq_getElem (by omega)]; rfl) (fun j hj => hB.frozen _) h1
  simp only [Nat.add_zero] at hst
  rw [hn] at hl
  cases hq : P.info? elem with
  | none => simp [hq] at hs
  | some i =>
    have hi : i.size = k := by simpa [hq] using hs
    simp [Builtin.copy_, run_underlying hu, Builtin.lenOf, Builtin.firstCells, sizeOf, typeInfo, hq, hi, hm, hl, hst]
theorem wp_copy_k {o : Oper} {a : Act} {w : World} {K : Act → World → Prop} {Q : Exit → Act → World → Prop} (d s : Operand) (dT sT : TypeId) (ho : o.op = .call { callee := .builtin .copy, args := #[d, s], argTypes := #[dT, sT] })
    (elem : TypeId) (k : Nat) (hu : P.underlying dT = some (.slice elem)) (hs : (P.info? elem).map (·.size) = some k) (g off dLen dCap : Nat) (ad : Addr) (sLen sCap : Nat) (cs cur : List Value) (t : TypeId)
    (hd : a.eval d = .slice (some ⟨g, off, none⟩) dLen dCap) (hx : a.eval s = .slice (some ad) sLen sCap) (n : Nat) (hm : Nat.min sLen dLen = n) (hn : cs.length = n * k)
    (hsrc : ∀ j v, cs[j]? = some v → w.cell? (ad.add j) = some v) (hB : Blk w g t cur) (hfit : off + cs.length ≤ cur.length) (h1 : ∀ v ∈ cs, v.oneCell' = true)
    (h : ∀ w', Blk w' g t (cur.take off ++ cs ++ cur.drop (off + cs.length)) → Chg (· = g) w w' → K (a.put o.dst (goInt n)) w') : o.wp P a w K Q := by
  have hr := run_copy_k (P := P) w dT sT o.type elem k g off dLen dCap ad sLen sCap cs cur t hu hs n hm hn hsrc hB hfit h1
  unfold Oper.wp execOp
  simp only [ho, resolve, invoke, builtin, Sem.run_bind, Sem.run_pure, Result.andThen_ok, List.map_toArray, List.map_cons, List.map_nil, hd, hx, hr]
  exact h _ (hB.setCells cs off hfit) (setCells_chg g cs off w)
theorem wpList_copy_k {ops : Array Oper} {rest : List Oper} {o : Oper} {a : Act} {w : World} {Q : Exit → Act → World → Prop} (hgd : o.guard = none) (d s : Operand) (dT sT : TypeId) (ho : o.op = .call { callee := .builtin .copy, args := #[d, s], argTypes := #[dT, sT] })
    (elem : TypeId) (k : Nat) (hu : P.underlying dT = some (.slice elem)) (hs : (P.info? elem).map (·.size) = some k) (g off dLen dCap : Nat) (ad : Addr) (sLen sCap : Nat) (cs cur : List Value) (t : TypeId)
    (hd : a.eval d = .slice (some ⟨g, off, none⟩) dLen dCap) (hx : a.eval s = .slice (some ad) sLen sCap) (n : Nat) (hm : Nat.min sLen dLen = n) (hn : cs.length = n * k)
    (hsrc : ∀ j v, cs[j]? = some v → w.cell? (ad.add j) = some v) (hB : Blk w g t cur) (hfit : off + cs.length ≤ cur.length) (h1 : ∀ v ∈ cs, v.oneCell' = true)
    (h : ∀ w', Blk w' g t (cur.take off ++ cs ++ cur.drop (off + cs.length)) → Chg (· = g) w w' → wpList P ops Q rest (a.put o.dst (goInt n)) w') : wpList P ops Q (o :: rest) a w :=
  wpList_plain hgd fun _ hK => wp_copy_k d s dT sT ho elem k hu hs g off dLen dCap ad sLen sCap cs cur t hd hx n hm hn hsrc hB hfit h1 fun w' h2 h3 => hK _ _ (h w' h2 h3)

/-- An owned slice's block is one of F. -/
def OwnIn (F : Nat → Prop) (v : Value) : Prop := ∀ z, v.ownBlock = some z → F z
/-- What append makes lies where it lay, or in a new block. -/
theorem run_append_blk {w : World} (base : Nat) (t ty e : TypeId) (i : TypeInfo) (z : Value) (size bytes : Nat) (ht : P.underlying t = some (.slice e)) (hi : P.info? e = some i) (hz : i.zero = some z)
    (hsize : i.size = size) (hby : i.bytes = bytes) (hzs : z.cells.size = size) (hsz : 0 < size) (v : Value) (n : Nat) (xs : List Value) (hown : Owns w base e size v n xs)
    (a : Addr) (m c : Nat) (news : List Value) (hl : news.length = m * size) (hnews : ∀ j u, news[j]? = some u → w.cell? (a.add j) = some u) (h1 : ∀ u ∈ news, u.oneCell' = true)
    (h63 : n + m ≤ maxLen) (hbytes : (n + m) * bytes ≤ 140737488355328) (hbase : base ≤ w.heap.size) :
    ∃ v' w', (Builtin.append_ #[t, t] ty #[v, .slice (some a) m c]).run P w = .ok v' w' ∧ Owns w' base e size v' (n + m) (xs ++ news) ∧ w.grownBy w' v.ownBlock ∧ OwnIn (fun b => v.ownBlock = some b ∨ w.heap.size ≤ b) v' := by
  obtain ⟨v', w', hr, h2, h3, _⟩ := run_append_own (P := P) w base t ty e i z size bytes ht hi hz hsize hby hzs hsz v n xs hown a m c news hl hnews h1 h63 hbytes hbase
  refine ⟨v', w', hr, h2, h3, ?_⟩
  rcases hown.2 with ⟨rfl, rfl⟩ | ⟨g, cap, cur, rfl, hbg, hg, hnc, hcm, hcs, htake⟩
  · have hx : xs = [] := List.eq_nil_of_length_eq_zero (by simpa using hown.1)
    subst hx
    obtain ⟨v2, w2, hr2, k2, _⟩ := run_append_own (P := P) w w.heap.size t ty e i z size bytes ht hi hz hsize hby hzs hsz (.slice none 0 0) 0 [] (World.ownsRow_nil w w.heap.size e size) a m c news hl hnews h1 h63 hbytes (Nat.le_refl _)
    rw [hr] at hr2
    injection hr2 with e1 e2
    subst e1 e2
    exact fun b hb => .inr (Owns.base_le k2 b hb).1
  · subst hsize hby
    by_cases hroom : n + m ≤ cap
    · have hr2 := run_append_room (P := P) w t ty e i ht hi g n cap cur hg a m c news hl hnews h1 hroom (by rw [hl, hcs, ← Nat.add_mul]; exact Nat.mul_le_mul_right _ hroom)
      rw [hr] at hr2
      injection hr2 with e1 e2
      subst e1
      exact fun b hb => .inl hb
    · have holds : ∀ j u, xs[j]? = some u → w.cell? ((⟨g, 0, none⟩ : Addr).add j) = some u := World.ownsRow.cells hown (g := g) rfl
      unfold maxLen at h63
      have hr2 := run_append_grow (P := P) w t ty e i z ht hi hz ⟨g, 0, none⟩ n cap xs hown.1 holds a m c news hl hnews (by omega) (by omega) (growslice_fits (by omega) hbytes)
      rw [hr] at hr2
      injection hr2 with e1 e2
      subst e1
      intro b hb
      simp [Value.ownBlock] at hb
      exact .inr (by omega)
end
section
variable {P : Program} {ops : Array Oper} {rest : List Oper} {o : Oper} {a : Act} {Q : Exit → Act → World → Prop} {w : World} {α : Type} {en : α → List Value}
/-- 'xs = append(xs, ys...)', with the block. -/
theorem wpList_append_rdb (hgd : o.guard = none) (s x : Operand) (t : TypeId) (ho : o.op = .call { callee := .builtin .append, args := #[s, x], argTypes := #[t, t] })
    (e : TypeId) (z : Value) (size bytes : Nat) (ht : P.underlying t = some (.slice e)) (hinfo : (P.info? e).map (fun i => (i.zero, i.size, i.bytes)) = some (some z, size, bytes)) (hzs : z.cells.size = size) (hsz : 0 < size)
    (base : Nat) (v : Value) (n : Nat) (xs : List Value) (hs : a.eval s = v) (hown : Owns w base e size v n xs) (src : Value) (hx : a.eval x = src) (l : List α) (hr : Rd en size w src l) (hl : ∀ a, (en a).length = size) (h1 : ∀ a, ∀ u ∈ en a, u.oneCell' = true)
    (h63 : n + l.length ≤ maxLen) (hbytes : (n + l.length) * bytes ≤ 140737488355328) (hbase : base ≤ w.heap.size)
    (h : ∀ v' w', Owns w' base e size v' (n + l.length) (xs ++ l.flatMap en) → OwnIn (fun b => v.ownBlock = some b ∨ w.heap.size ≤ b) v' → Chg (fun g => v.ownBlock = some g) w w' → wpList P ops Q rest (a.put o.dst v') w') : wpList P ops Q (o :: rest) a w := by
  refine wpList_plain hgd fun K hK => ?_
  obtain ⟨i, hi, hzz⟩ := Option.map_eq_some_iff.1 hinfo
  simp only [Prod.mk.injEq] at hzz
  obtain ⟨hz, hsi, hby⟩ := hzz
  obtain ⟨A, cap, rfl, _, _, hrow, hnil⟩ := hr
  cases A with
  | none =>
    have hc := hnil rfl
    subst hc
    have hl0 : l = [] := by
      cases l with
      | nil => rfl
      | cons y l => obtain ⟨b, o, hA, _⟩ := hrow 0 (by simp); cases hA
    subst hl0
    have hrun := run_append_owned_none (P := P) (w := w) base t o.type e i size ht hi v n xs hown
    unfold Oper.wp
    simp only [execOp, ho, resolve, invoke, builtin, Sem.run_bind, Sem.run_pure, Result.andThen_ok, List.map_toArray, List.map_cons, List.map_nil, hs, hx, List.length_nil, hrun]
    exact hK _ _ (h v w (by simpa using hown) (fun b hb => .inl hb) (Chg.refl _ _))
  | some ad =>
    obtain ⟨v', w', hr, h2, h3, h4⟩ := run_append_blk (P := P) base t o.type e i z size bytes ht hi hz hsi hby hzs hsz v n xs hown ad l.length cap (l.flatMap en) (flat_len hl l) (Rd.news hrow hl hsz)
      (fun u hu => by obtain ⟨y, _, hy⟩ := List.mem_flatMap.1 hu; exact h1 y u hy) h63 hbytes hbase
    unfold Oper.wp
    simp only [execOp, ho, resolve, invoke, builtin, Sem.run_bind, Sem.run_pure, Result.andThen_ok, List.map_toArray, List.map_cons, List.map_nil, hs, hx, hr]
    exact hK _ _ (h v' w' h2 h4 ((Chg.of_grown h3).mono fun g _ hg => hg.symm))
end

/-- What a row reads behind a change of another row, or of its own. -/
theorem Owns.blk' {w : World} {base : Nat} {e : TypeId} {size n g cap : Nat} {xs : List Value} (h : Owns w base e size (.slice (some ⟨g, 0, none⟩) n cap) n xs) :
    ∃ cur : List Value, Blk w g e cur ∧ cur.length = cap * size ∧ n ≤ cap ∧ cap ≤ maxLen ∧ base ≤ g ∧ cur.take (n * size) = xs ∧ xs.length = n * size := by
  obtain ⟨h1, h2⟩ := h
  rcases h2 with ⟨h2, _⟩ | ⟨g', cap', cur, h2, hb, hg, hnc, hcm, hcs, ht⟩
  · injection h2 with h2; cases h2
  · injection h2 with h2 h3 h4
    injection h2 with h2
    injection h2 with h2
    subst h2 h4
    exact ⟨cur.toList, by unfold Blk; simpa using hg, by simpa using hcs, hnc, hcm, hb, ht, h1⟩
theorem Owns.of_blk {w : World} {base : Nat} {e : TypeId} {size n g cap : Nat} {xs cur : List Value} (h : Blk w g e cur) (hb : base ≤ g) (hl : cur.length = cap * size) (hn : n ≤ cap) (hm : cap ≤ maxLen) (hx : cur.take (n * size) = xs) (hxl : xs.length = n * size) :
    Owns w base e size (.slice (some ⟨g, 0, none⟩) n cap) n xs := ⟨hxl, .inr ⟨g, cap, cur.toArray, rfl, hb, h, hn, hm, by simpa using hl, by simpa using hx⟩⟩

theorem Owns.blk {w : World} {base : Nat} {e : TypeId} {size n g cap : Nat} {xs : List Value} (h : Owns w base e size (.slice (some ⟨g, 0, none⟩) n cap) n xs) :
    ∃ cur : List Value, Blk w g e cur ∧ cur.length = cap * size ∧ n ≤ cap ∧ cap ≤ maxLen ∧ base ≤ g ∧ cur.take (n * size) = xs ∧ xs.length = n * size := h.blk'

end Go.Proofs.YtpjjijhojcfmnaaGreat

namespace Go.Proofs.YtpjjijhojcfmnaaGreat
open Go.RowKit Go.Shelf Go.Lib Go.Sort
set_option linter.unusedVariables false
set_option linter.unusedSimpArgs false

section
variable {P : Program} {α : Type} [Inhabited α] {en : α → List Value} {k : Nat}
theorem flatK_get (hl : ∀ a, (en a).length = k) (h0 : 0 < k) (d : Array α) (j : Nat) (hj : j < d.size * k) : (d.toList.flatMap en)[j]? = some (flatK en k d)[j]! := by
  have hq : j / k < d.size := (Nat.div_lt_iff_lt_mul h0).2 hj
  have hr := Nat.mod_lt j h0
  have hx : d.toList[j / k]? = some d[j / k]! := by
    rw [getElem!_pos d _ hq, Array.getElem?_toList, Array.getElem?_eq_getElem hq]
  have h1 := flat_get hl d.toList (j / k) _ hx (j % k) hr
  rw [Nat.mul_comm, Nat.div_add_mod] at h1
  have hlt : j % k < (en d[j / k]!).length := by rw [hl]; exact hr
  have e := List.getElem?_eq_getElem hlt
  rw [h1, get_flatK _ _ _ _ hj, e, List.getElem!_of_getElem? e]
theorem holds_own {w : World} {g : Nat} {t : TypeId} {cur : List Value} (hl : ∀ a, (en a).length = k) (h0 : 0 < k) (d : Array α) (hB : Blk w g t cur) (ht : cur.take (d.size * k) = d.toList.flatMap en) : HoldsK en k w g 0 d := by
  intro j hj
  rw [size_flatK] at hj
  refine ⟨?_, hB.frozen _⟩
  rw [Nat.zero_add]
  refine hB.cellv ?_
  have h1 := flatK_get hl h0 d j hj
  rw [← ht, List.getElem?_take_of_lt hj] at h1
  exact h1
theorem blk_sorted {w : World} {g n : Nat} {t : TypeId} {os : Array Obj} {cur : List Value} (hl : ∀ a, (en a).length = k) (h0 : 0 < k) (d : Array α) (hB : Blk w g t cur) (hd : d.size * k ≤ cur.length) :
    ∃ cur' : List Value, Blk (sortWorldK en k w g 0 n d os) g t cur' ∧ cur'.length = cur.length ∧ cur'.take (d.size * k) = d.toList.flatMap en := by
  have hg := hB.lt
  refine ⟨(putCells id 0 (flatK en k d) cur.toArray).toList, ?_, by simp [putCells], ?_⟩
  · unfold Blk sortWorldK putRowK at *
    rw [heap_grow_old _ _ (by simpa using hg)]
    simp [putRow, mapBlock, Sort.ahead, Array.getElem?_modify, hB, onCells]
  · apply List.ext_getElem?
    intro j
    by_cases hj : j < d.size * k
    · rw [List.getElem?_take_of_lt hj, Array.getElem?_toList, flatK_get hl h0 d j hj]
      simp [putCells, hj, show j < cur.length by omega]
    · rw [List.getElem?_take_eq_none (by omega), List.getElem?_eq_none (by rw [flat_len hl]; simpa using hj)]
theorem chg_sorted {w : World} {g n : Nat} {os : Array Obj} (d : Array α) : Chg (· = g) w (sortWorldK en k w g 0 n d os) := by
  refine ⟨rfl, rfl, rfl, by simp [sortWorldK, putRowK], fun i hi hne => ?_⟩
  unfold sortWorldK putRowK
  rw [heap_grow_old _ _ (by simpa using hi)]
  have : g ≠ i := fun e => hne e.symm
  simp [putRow, mapBlock, Sort.ahead, Array.getElem?_modify, this]
def SortPost (base : Nat) (e : TypeId) (en : α → List Value) (k : Nat) (cf : α → α → Int) (w : World) (v : Value) (l : List α) (r : Ending) (w' : World) : Prop :=
  r = .returned (.tuple #[]) ∧ ∃ l' : List α, l'.Perm l ∧ l'.Pairwise (fun x y => ltOf cf y x = false) ∧ Owns w' base e k v l'.length (l'.flatMap en) ∧ Chg (fun b => v.ownBlock = some b) w w'
theorem sortK {ρ : Ren} (L : SlLaysF0.n6 P ρ) (hk : ∀ x, (en x).length = k) (h0 : 0 < k) (aE : ∀ w, (isAgg (ρ.t 24)).run P w = .ok true w) (zE : ∀ w, (Go.sizeOf (ρ.t 24)).run P w = .ok k w) (h1 : ∀ x, ∀ v ∈ en x, v.oneCell' = true)
    (cf : α → α → Int) (hO : SWO (ltOf cf)) (g : Nat) (eg : ∀ args w, (callFunc g args).run P w = .ok (.enter g args) w)
    (hcmp : ∀ x y W, Calls P g #[.agg (en x).toArray, .agg (en y).toArray] W fun e w' => e = .returned (.int .i64 (cf x y)) ∧ ∃ q os', w' = grow (W.drewN q) os')
    (w : World) (base : Nat) (e : TypeId) (v : Value) (l : List α) (hv : Owns w base e k v l.length (l.flatMap en)) (hlen : l.length ≤ 100000000) :
    Calls P (ρ.f 6) #[v, .func (.func g) #[] #[]] w (SortPost base e en k cf w v l) := by
  obtain ⟨A, cap, rfl, _, _, hf⟩ := Owns.form hv
  by_cases hz : l = []
  · subst hz
    refine (AnyF.slices_SortFunc_none L A cap _ w).mono ?_
    rintro _ _ ⟨rfl, rfl⟩
    exact ⟨rfl, [], List.Perm.refl _, .nil, hv, Chg.refl _ _⟩
  · have hpos : 0 < l.length := List.length_pos_iff.2 hz
    obtain ⟨b, rfl, _⟩ := hf hpos
    obtain ⟨cur, hB, hcl, hnc, hcm, hbb, htk, _⟩ := hv.blk'
    have hH := holds_own (k := k) hk h0 l.toArray hB (by simpa using htk)
    have hcon := AnyQ.slices_SortFunc L k aE zE en hk h1 cf hO g #[] b 0 cap l.toArray w eg (fun m os dk hs x y => hcmp x y _) hH hB.lt (by simp; omega)
    refine hcon.mono ?_
    rintro _ _ ⟨rfl, d', n, os, hp, hs, rfl⟩
    have hsz : d'.size = l.length := by simpa using hp.1
    obtain ⟨cur', c1, c2, c3⟩ := blk_sorted (n := n) (os := os) hk h0 d' hB (by rw [hsz, hcl]; exact Nat.mul_le_mul_right _ hnc)
    have hll : d'.toList.length = l.length := by simpa using hsz
    refine ⟨rfl, d'.toList, ?_, ?_, ?_, chg_sorted d' |>.mono fun z _ e => by subst e; rfl⟩
    · have h3 := hp.2.2
      rw [Array.extract_eq_self_of_le (by simp; omega), Array.extract_eq_self_of_le (by simp)] at h3
      simpa using h3
    · rw [List.pairwise_iff_getElem]
      intro i j hi hj hij
      have h4 := hs i j (Nat.zero_le _) hij (by simp; simp at hj; omega)
      simp at hi hj
      rw [getElem!_pos d' _ hj, getElem!_pos d' _ hi] at h4
      simpa using h4
    · rw [hll]
      refine ⟨by rw [flat_len hk, hll], .inr ⟨b, cap, cur'.toArray, rfl, hbb, c1, hnc, hcm, by simp; rw [c2, hcl], ?_⟩⟩
      rw [← hsz]; simpa using c3
end

end Go.Proofs.YtpjjijhojcfmnaaGreat

namespace Go.Proofs.YtpjjijhojcfmnaaGreat
open Go.RowKit Go.Shelf Go.Lib Go.Sort
set_option linter.unusedVariables false
set_option linter.unusedSimpArgs false
set_option maxRecDepth 100000

/-- Blocks were laid, answers were drawn, nothing else. -/
def Grown2 (w w' : World) : Prop := ∃ q os, w' = grow (w.drewN q) os
theorem Grown2.refl (w : World) : Grown2 w w := ⟨0, #[], by simp [grow_empty]; rfl⟩
theorem Grown2.alloc {w w' : World} (h : Grown2 w w') (o : Obj) : Grown2 w (w'.alloc o) := by
  obtain ⟨q, os, rfl⟩ := h
  exact ⟨q, os ++ #[o], by rw [alloc_eq_grow, grow_grow]⟩
theorem Grown2.drew {w w' : World} (h : Grown2 w w') : Grown2 w w'.drew := by
  obtain ⟨q, os, rfl⟩ := h
  exact ⟨q + 1, os, rfl⟩
theorem Grown2.trans {a b c : World} (h : Grown2 a b) (k : Grown2 b c) : Grown2 a c := by
  obtain ⟨q, os, rfl⟩ := h
  obtain ⟨q2, os2, rfl⟩ := k
  refine ⟨q + q2, os ++ os2, ?_⟩
  rw [← grow_grow]
  show grow ((grow (a.drewN q) os).drewN q2) os2 = grow (grow (a.drewN (q + q2)) os) os2
  congr 1
  simp [World.drewN, grow, Nat.add_assoc]
theorem Grown2.below {w w' : World} (h : Grown2 w w') : Below w.heap.size w w' := by
  obtain ⟨q, os, rfl⟩ := h
  exact ⟨rfl, rfl, rfl, by simp [grow, World.drewN], fun i hi => by rw [heap_grow_old _ _ (by simpa [World.drewN] using hi)]; rfl⟩
theorem addr_compareG (p q : Pf) (w : World) :
    Calls Tryz.prog 87 #[.agg #[.int .u64 (p.1.1 : Int), .int .u64 (p.1.2 : Int), .int .i64 p.2], .agg #[.int .u64 (q.1.1 : Int), .int .u64 (q.1.2 : Int), .int .i64 q.2]] w fun e w' => e = .returned (.int .i64 (p.cmp q)) ∧ Grown2 w w' := by
  obtain ⟨⟨a, b⟩, n⟩ := p
  obtain ⟨⟨c, d⟩, m⟩ := q
  go_enter Tryz.func87, Tryz.ntmps87
  go_wp2_with fail
  refine wp_region_tail 19 (by kernel_rfl) (by kernel_rfl) ?_
  simp only [List.take_succ_cons, List.take_zero, List.drop_succ_cons, List.drop_zero]
  repeat (first
    | still_step
    | still_call (still_of (cmp_u64 _ _ _))
    | still_call (still_of (cmp_int _ _ _)))
  refine wpStill_nil ?_
  go_wp2_with fail
  refine (cmp_or _ (cmpI a c) (cmpI b d) (cmpI n m) _ ?_ ?_ ?_).mono ?_
  · exact new_cell _ _ _ _ (by simp) _ _ rfl
  · exact new_cell _ _ _ _ (by simp) _ _ rfl
  · exact new_cell _ _ _ _ (by simp) _ _ rfl
  rintro e w1 ⟨rfl, rfl⟩
  go_wp2
  go_ret
  refine ⟨rfl, ?_⟩
  repeat (first | exact Grown2.refl _ | apply Grown2.drew | apply Grown2.alloc)
theorem cuckoo_order (p q : Rt) (w : World) :
    Calls Tryz.prog 62 #[.agg #[.int .u64 (p.1.1.1 : Int), .int .u64 (p.1.1.2 : Int), .int .i64 p.1.2, .int .i64 p.2], .agg #[.int .u64 (q.1.1.1 : Int), .int .u64 (q.1.1.2 : Int), .int .i64 q.1.2, .int .i64 q.2]] w fun e w' => e = .returned (.int .i64 (p.1.cmp q.1)) ∧ Grown2 w w' := by
  have c1 := hid fun w => addr_compareG p.1 q.1 w
  obtain ⟨⟨⟨a, b⟩, n⟩, h⟩ := p
  obtain ⟨⟨⟨c, d⟩, m⟩, k⟩ := q
  generalize Pf.cmp ((a, b), n) ((c, d), m) = z at c1 ⊢
  go_enter Tryz.func62, Tryz.ntmps62
  go_wp2_with fail
  refine (c1.out _).mono ?_
  rintro e w1 ⟨rfl, hg⟩
  have HG := hid ((((Grown2.refl w).alloc _).alloc _).trans hg)
  clear hg
  go_wp2_with fail
  go_ret
  exact ⟨rfl, HG.out⟩
def rtCmp (x y : Rt) : Int := x.1.cmp y.1
theorem rtCmp_lt (x y : Rt) : ltOf rtCmp x y = decide (x.1.lt y.1) := by unfold ltOf rtCmp; simp only [cmp_lt]
theorem rtCmp_swo : SWO (ltOf rtCmp) where
  irrefl x := by rw [rtCmp_lt]; exact decide_eq_false (pf_lt_irrefl _)
  trans x y z h1 h2 := by
    rw [rtCmp_lt] at *
    exact decide_eq_true (pf_lt_trans (of_decide_eq_true h1) (of_decide_eq_true h2))
  ntrans x y z h1 h2 := by
    rw [rtCmp_lt] at *
    have h1 := of_decide_eq_false h1
    have h2 := of_decide_eq_false h2
    refine decide_eq_false fun h => ?_
    unfold Pf.lt at *
    omega
theorem sort_routes (w : World) (base : Nat) (v : Value) (l : List Rt) (hv : Owns w base 77 4 v l.length (rtsV l)) (hlen : l.length ≤ 100000000) :
    Calls Tryz.prog 61 #[v, .func (.func 62) #[] #[]] w (SortPost base 77 rtEn 4 rtCmp w v l) := by
  have h := sortK (P := Tryz.prog) (en := rtEn) (k := 4) Tryz.sortRoute rtEn_length (by decide) (fun _ => by kernel_rfl) (fun _ => by kernel_rfl) cells_rt rtCmp rtCmp_swo 62 (enters_of Tryz.func62 (by kernel_rfl) rfl)
    (fun x y W => cuckoo_order x y W) w base 77 v l hv hlen
  exact h
/-- Of keys that are all unlike: in strict order. -/
theorem strict_of {l l' : List Rt} (hp : l'.Perm l) (hs : l'.Pairwise (fun x y => ltOf rtCmp y x = false)) (h1 : ∀ p, l.countP (fun r => decide (r.1 = p)) ≤ 1) : l'.Pairwise (fun x y => x.1.lt y.1) := by
  rw [List.pairwise_iff_getElem] at hs ⊢
  intro i j hi hj hij
  have h := hs i j hi hj hij
  rw [rtCmp_lt] at h
  have h := of_decide_eq_false h
  by_cases e : l'[i].1 = l'[j].1
  · exfalso
    have hc : 2 ≤ l'.countP (fun r => decide (r.1 = l'[i].1)) := by
      have e2 : l' = l'.take j ++ l'[j] :: l'.drop (j + 1) := by rw [← List.drop_eq_getElem_cons hj, List.take_append_drop]
      have hm : l'[i] ∈ l'.take j := by
        rw [List.mem_iff_getElem]
        exact ⟨i, by rw [List.length_take]; omega, by rw [List.getElem_take]⟩
      have hp1 : 0 < (l'.take j).countP (fun r => decide (r.1 = l'[i].1)) := List.countP_pos_iff.2 ⟨_, hm, by simp⟩
      have e3 : l'.countP (fun r => decide (r.1 = l'[i].1)) = (l'.take j).countP (fun r => decide (r.1 = l'[i].1)) + (l'[j] :: l'.drop (j + 1)).countP (fun r => decide (r.1 = l'[i].1)) := by
        rw [← List.countP_append, ← e2]
      rw [e3, List.countP_cons, if_pos (by simp [e])]
      omega
    rw [hp.countP_eq] at hc
    have := h1 l'[i].1
    omega
  · generalize l'[i] = a at *
    generalize l'[j] = b at *
    obtain ⟨⟨⟨a1, a2⟩, a3⟩, a4⟩ := a
    obtain ⟨⟨⟨b1, b2⟩, b3⟩, b4⟩ := b
    unfold Pf.lt at *
    simp only [Prod.mk.injEq] at *
    omega

end Go.Proofs.YtpjjijhojcfmnaaGreat

namespace Go.Proofs.YtpjjijhojcfmnaaGreat
open Go.RowKit
set_option linter.unusedVariables false
set_option linter.unusedSimpArgs false
set_option maxRecDepth 100000

theorem cmp_zero (p q : Pf) : p.cmp q = 0 ↔ p = q := by
  obtain ⟨⟨a, b⟩, n⟩ := p
  obtain ⟨⟨c, d⟩, m⟩ := q
  unfold Pf.cmp or3 cmpI
  simp only [Prod.mk.injEq]
  constructor
  · intro h; split at h <;> (try split at h) <;> (try split at h) <;> (try split at h) <;> omega
  · rintro ⟨⟨rfl, rfl⟩, rfl⟩; simp
structure Found (l : List Rt) (p : Pf) (i : Nat) (f : Bool) : Prop where
  le : i ≤ l.length
  lo : ∀ (j : Nat) (x : Rt), j < i → l[j]? = some x → x.1.lt p
  hi : ∀ x, l[i]? = some x → ¬ x.1.lt p
  is : f = true ↔ ∃ x, l[i]? = some x ∧ x.1 = p
def SrchPost (w : World) (l : List Rt) (p : Pf) (e : Ending) (w' : World) : Prop := ∃ (i : Nat) (f : Bool), e = .returned (.tuple #[.int .i64 (i : Int), .bool f]) ∧ Found l p i f ∧ Below w.heap.size w w'
def SrchRel (w : World) (l : List Rt) (p : Pf) (n : Nat) (i j : Value) (wr : World) : Prop :=
  ∃ a b : Nat, a ≤ b ∧ b ≤ n ∧ i = .int .i64 a ∧ j = .int .i64 b ∧ (∀ (j : Nat) (x : Rt), j < a → l[j]? = some x → x.1.lt p) ∧ (∀ (j : Nat) (x : Rt), b ≤ j → l[j]? = some x → ¬ x.1.lt p) ∧ Below w.heap.size w wr
theorem search (w : World) (v : Value) (l : List Rt) (hR : Rd rtEn 4 w v l) (hs : l.Pairwise (fun x y => x.1.lt y.1)) (hlen : l.length ≤ 100000000) (p : Pf) (h : Int) :
    Calls Tryz.prog 83 #[v, .agg #[.int .u64 (p.1.1 : Int), .int .u64 (p.1.2 : Int), .int .i64 p.2, .int .i64 h], .func (.func 62) #[] #[]] w (SrchPost w l p) := by
  have HR := hid fun k x (h : l[k]? = some x) => hR.get rtEn_length (by decide) h
  have HS := hid hs
  obtain ⟨A, cap, rfl, n1, m1⟩ := hR.form
  unfold maxLen at m1
  obtain ⟨n, hn⟩ : ∃ n, l.length = n := ⟨_, rfl⟩
  have HN := hid hn
  rw [hn] at n1 hlen ⊢
  clear hn hR hs
  have HBX := hid (Blk.new_at w #[.int .u64 (p.1.1 : Int), .int .u64 (p.1.2 : Int), .int .i64 p.2, .int .i64 h] 77 w.heap.size rfl)
  have HB0 := hid ((Below.refl w.heap.size w).alloc (Nat.le_refl _) (.cells #[.int .u64 (p.1.1 : Int), .int .u64 (p.1.2 : Int), .int .i64 p.2, .int .i64 h] 77))
  have co := hid fun (x : Rt) w => cuckoo_order x (p, h) w
  obtain ⟨⟨p1, p2⟩, p3⟩ := p
  simp only at HBX HB0 co
  go_enter Tryz.func83, Tryz.ntmps83
  go_wp2_with fail
  obtain ⟨w0, hw0⟩ : ∃ w0, w.alloc (.cells #[.int .u64 (p1 : Int), .int .u64 (p2 : Int), .int .i64 p3, .int .i64 h] 77) = w0 := ⟨_, rfl⟩
  rw [hw0] at HBX HB0 ⊢
  clear hw0
  go_loopw [9, 10] (fun i j wr => SrchRel w0 l ((p1, p2), p3) n i j wr) (fun i j _ => (intOf j).toNat - (intOf i).toNat)
  case atStart => exact ⟨0, n, Nat.zero_le _, Nat.le_refl _, rfl, rfl, fun j x hj => by omega, fun j x hj hx => by have := (List.getElem?_eq_some_iff.1 hx).1; have := HN.out; omega, Below.refl _ _⟩
  case round =>
    obtain ⟨a, b, hab, hbn, rfl, rfl, hlo, hhi, hB⟩ := hrel
    have HLO := hid hlo
    have HHI := hid hhi
    have HB := hid hB
    have BX := HBX.out.below' hB
    have b0 := BX.cellv (i := 0) rfl
    have b1 := BX.cellv (i := 1) rfl
    have b2 := BX.cellv (i := 2) rfl
    have b3 := BX.cellv (i := 3) rfl
    clear hlo hhi hB BX
    by_cases hlt : a < b
    · obtain ⟨m, hm⟩ : ∃ m, (a + b) / 2 = m := ⟨_, rfl⟩
      have hmb : m < b := by omega
      have ham : a ≤ m := by omega
      have e1 : ((a : Int) + (b : Int)) / 2 = (m : Int) := by omega
      obtain ⟨x, hx⟩ : ∃ x, l[m]? = some x := ⟨_, List.getElem?_eq_getElem (by rw [HN.out]; omega)⟩
      obtain ⟨ba, oa, ca, hv, _, _, la, sa⟩ := HR.out m x hx
      injection hv with hA hxx hc
      subst hA hc
      have HBW := hid (HB0.out.trans (HB.out.mono HB0.out.size))
      have y0 : wr.cell? ⟨ba, oa + m * 4, none⟩ = some (.int .u64 (x.1.1.1 : Int)) := (HBW.out.cell (p := ⟨ba, oa + m * 4, none⟩) la).trans (sa 0 _ rfl)
      have y1 : wr.cell? ⟨ba, oa + m * 4 + 1, none⟩ = some (.int .u64 (x.1.1.2 : Int)) := (HBW.out.cell (p := ⟨ba, oa + m * 4 + 1, none⟩) la).trans (sa 1 _ rfl)
      have y2 : wr.cell? ⟨ba, oa + m * 4 + 2, none⟩ = some (.int .i64 x.1.2) := (HBW.out.cell (p := ⟨ba, oa + m * 4 + 2, none⟩) la).trans (sa 2 _ rfl)
      have y3 : wr.cell? ⟨ba, oa + m * 4 + 3, none⟩ = some (.int .i64 x.2) := (HBW.out.cell (p := ⟨ba, oa + m * 4 + 3, none⟩) la).trans (sa 3 _ rfl)
      have HXM := hid hx
      clear sa hxx hx hm
      have cb := hid (fun w => (co.out x w).mono (fun e w' (h : e = .returned (.int .i64 (x.1.cmp ((p1, p2), p3))) ∧ Grown2 w w') => (show e = .returned (.int .i64 (x.1.cmp ((p1, p2), p3))) ∧ Below w.heap.size w w' from ⟨h.1, h.2.below⟩)))
      obtain ⟨z, hz⟩ : ∃ z, x.1.cmp ((p1, p2), p3) = z := ⟨_, rfl⟩
      rw [hz] at cb
      have HZ := hid hz
      obtain ⟨⟨⟨x1, x2⟩, x3⟩, x4⟩ := x
      have HY := hid (And.intro b0 (And.intro b1 (And.intro b2 (And.intro b3 (And.intro y0 (And.intro y1 (And.intro y2 y3)))))))
      clear hz
      by_cases hneg : z < 0
      all_goals
        go_wp2_with fail
        refine wp_region_later (fun w' => w'.cell? ⟨w.heap.size, 0, none⟩ = some (.int .u64 (p1 : Int)) ∧ w'.cell? ⟨w.heap.size, 1, none⟩ = some (.int .u64 (p2 : Int)) ∧ w'.cell? ⟨w.heap.size, 2, none⟩ = some (.int .i64 p3) ∧ w'.cell? ⟨w.heap.size, 3, none⟩ = some (.int .i64 h) ∧
            w'.cell? ⟨ba, oa + m * 4, none⟩ = some (.int .u64 (x1 : Int)) ∧ w'.cell? ⟨ba, oa + m * 4 + 1, none⟩ = some (.int .u64 (x2 : Int)) ∧ w'.cell? ⟨ba, oa + m * 4 + 2, none⟩ = some (.int .i64 x3) ∧ w'.cell? ⟨ba, oa + m * 4 + 3, none⟩ = some (.int .i64 x4))
          (fun z => ⟨z.cell HY.out.1, z.cell HY.out.2.1, z.cell HY.out.2.2.1, z.cell HY.out.2.2.2.1, z.cell HY.out.2.2.2.2.1, z.cell HY.out.2.2.2.2.2.1, z.cell HY.out.2.2.2.2.2.2.1, z.cell HY.out.2.2.2.2.2.2.2⟩) (by kernel_rfl) (by kernel_rfl) (fun HS => ?_)
        repeat (go_big_quiet_step (with_reducible exact Later.calls _ (cb.out _)))
        refine wpQuiet_nil ?_
        rintro _ ⟨⟨w7, hb7⟩, rfl⟩
        have HB7 := hid (held_next HB.out hb7)
        clear hb7 b0 b1 b2 b3 y0 y1 y2 y3 HY HS
        go_wp2_with fail
        go_roundw
      case rel =>
        refine ⟨m + 1, b, by omega, hbn, by go_num, rfl, fun j y hj hy => ?_, HHI.out, HB7.out⟩
        by_cases e : j = m
        · subst e; rw [HXM.out] at hy; injection hy with hy; subst hy; exact (cmp_lt _ _).1 (by rw [HZ.out]; exact hneg)
        · have hjm : j < m := by omega
          have h1 : Pf.lt y.1 ((x1, x2), x3) := by
            have hp := List.pairwise_iff_getElem.1 HS.out j m (by have := (List.getElem?_eq_some_iff.1 hy).1; exact this) (List.getElem?_eq_some_iff.1 HXM.out).1 hjm
            rw [(List.getElem?_eq_some_iff.1 hy).2, (List.getElem?_eq_some_iff.1 HXM.out).2] at hp
            exact hp
          exact pf_lt_trans h1 ((cmp_lt _ _).1 (by rw [HZ.out]; exact hneg))
      case measure => simp [intOf]; omega
      case rel =>
        refine ⟨a, m, ham, by omega, rfl, rfl, HLO.out, fun j y hj hy => ?_, HB7.out⟩
        have hnl : ¬ Pf.lt ((x1, x2), x3) ((p1, p2), p3) := fun hl => by have h1 := (cmp_lt _ _).2 hl; rw [HZ.out] at h1; omega
        by_cases e : j = m
        · subst e; rw [HXM.out] at hy; injection hy with hy; subst hy; exact hnl
        · have hjm : m < j := by omega
          have h1 : Pf.lt ((x1, x2), x3) y.1 := by
            have hp := List.pairwise_iff_getElem.1 HS.out m j (List.getElem?_eq_some_iff.1 HXM.out).1 (List.getElem?_eq_some_iff.1 hy).1 hjm
            rw [(List.getElem?_eq_some_iff.1 hy).2, (List.getElem?_eq_some_iff.1 HXM.out).2] at hp
            exact hp
          exact fun hl => hnl (pf_lt_trans h1 hl)
      case measure => simp [intOf]; omega
    · obtain rfl : a = b := by omega
      clear hlt hab
      have HBW := hid (HB0.out.trans (HB.out.mono HB0.out.size))
      by_cases han : a < n
      · obtain ⟨x, hx⟩ : ∃ x, l[a]? = some x := ⟨_, List.getElem?_eq_getElem (by rw [HN.out]; omega)⟩
        obtain ⟨ba, oa, ca, hv, _, _, la, sa⟩ := HR.out a x hx
        injection hv with hA hxx hc
        subst hA hc
        have y0 : wr.cell? ⟨ba, oa + a * 4, none⟩ = some (.int .u64 (x.1.1.1 : Int)) := (HBW.out.cell (p := ⟨ba, oa + a * 4, none⟩) la).trans (sa 0 _ rfl)
        have y1 : wr.cell? ⟨ba, oa + a * 4 + 1, none⟩ = some (.int .u64 (x.1.1.2 : Int)) := (HBW.out.cell (p := ⟨ba, oa + a * 4 + 1, none⟩) la).trans (sa 1 _ rfl)
        have y2 : wr.cell? ⟨ba, oa + a * 4 + 2, none⟩ = some (.int .i64 x.1.2) := (HBW.out.cell (p := ⟨ba, oa + a * 4 + 2, none⟩) la).trans (sa 2 _ rfl)
        have y3 : wr.cell? ⟨ba, oa + a * 4 + 3, none⟩ = some (.int .i64 x.2) := (HBW.out.cell (p := ⟨ba, oa + a * 4 + 3, none⟩) la).trans (sa 3 _ rfl)
        have HXM := hid hx
        have cb := hid (fun w => (co.out x w).mono (fun e w' (h : e = .returned (.int .i64 (x.1.cmp ((p1, p2), p3))) ∧ Grown2 w w') => (show e = .returned (.int .i64 (x.1.cmp ((p1, p2), p3))) ∧ Below w.heap.size w w' from ⟨h.1, h.2.below⟩)))
        obtain ⟨z, hz⟩ : ∃ z, x.1.cmp ((p1, p2), p3) = z := ⟨_, rfl⟩
        rw [hz] at cb
        have HZ := hid hz
        obtain ⟨⟨⟨x1, x2⟩, x3⟩, x4⟩ := x
        have HY := hid (And.intro b0 (And.intro b1 (And.intro b2 (And.intro b3 (And.intro y0 (And.intro y1 (And.intro y2 y3)))))))
        clear hz sa hxx hx
        obtain ⟨f, hf⟩ : ∃ f, (z == 0) = f := ⟨_, rfl⟩
        have HF := hid hf
        clear hf
        go_wp2_with fail
        refine wp_region_later (fun w' => w'.cell? ⟨w.heap.size, 0, none⟩ = some (.int .u64 (p1 : Int)) ∧ w'.cell? ⟨w.heap.size, 1, none⟩ = some (.int .u64 (p2 : Int)) ∧ w'.cell? ⟨w.heap.size, 2, none⟩ = some (.int .i64 p3) ∧ w'.cell? ⟨w.heap.size, 3, none⟩ = some (.int .i64 h) ∧
            w'.cell? ⟨ba, oa + a * 4, none⟩ = some (.int .u64 (x1 : Int)) ∧ w'.cell? ⟨ba, oa + a * 4 + 1, none⟩ = some (.int .u64 (x2 : Int)) ∧ w'.cell? ⟨ba, oa + a * 4 + 2, none⟩ = some (.int .i64 x3) ∧ w'.cell? ⟨ba, oa + a * 4 + 3, none⟩ = some (.int .i64 x4))
          (fun z => ⟨z.cell HY.out.1, z.cell HY.out.2.1, z.cell HY.out.2.2.1, z.cell HY.out.2.2.2.1, z.cell HY.out.2.2.2.2.1, z.cell HY.out.2.2.2.2.2.1, z.cell HY.out.2.2.2.2.2.2.1, z.cell HY.out.2.2.2.2.2.2.2⟩) (by kernel_rfl) (by kernel_rfl) (fun HS => ?_)
        repeat (go_big_quiet_step (with_reducible exact Later.calls _ (cb.out _)))
        refine wpQuiet_nil ?_
        rintro _ ⟨⟨w7, hb7⟩, rfl⟩
        have HB7 := hid (held_next HBW.out hb7)
        clear hb7 b0 b1 b2 b3 y0 y1 y2 y3 HY HS
        go_wp2_with fail
        go_ret2
        refine ⟨a, z == 0, rfl, ⟨by rw [HN.out]; omega, HLO.out, fun y hy => HHI.out a y (Nat.le_refl _) hy, ?_⟩, HB7.out⟩
        rw [HXM.out, beq_iff_eq, ← HZ.out, cmp_zero]
        exact ⟨fun e => ⟨_, rfl, e⟩, fun ⟨y, h1, h2⟩ => by injection h1 with h1; subst h1; exact h2⟩
      · have han' : a = n := by omega
        subst han'
        go_wp2_with fail
        refine wp_region_later (fun w' => w'.cell? ⟨w.heap.size, 0, none⟩ = some (.int .u64 (p1 : Int))) (fun z => z.cell b0) (by kernel_rfl) (by kernel_rfl) (fun HS => ?_)
        repeat (go_big_quiet_step (fail))
        refine wpQuiet_nil ?_
        rintro _ ⟨⟨w7, hb7⟩, rfl⟩
        have HB7 := hid (held_next HBW.out hb7)
        clear hb7 b0 b1 b2 b3 HS
        go_wp2_with fail
        go_ret2
        refine ⟨a, false, rfl, ⟨by rw [HN.out]; omega, HLO.out, fun y hy => HHI.out a y (Nat.le_refl _) hy, ?_⟩, HB7.out⟩
        rw [List.getElem?_eq_none (by rw [HN.out]; omega)]
        exact ⟨fun e => (by cases e), fun ⟨y, h1, _⟩ => (by cases h1)⟩

end Go.Proofs.YtpjjijhojcfmnaaGreat

namespace Go.Proofs.YtpjjijhojcfmnaaGreat
open Go.RowKit
set_option linter.unusedVariables false
set_option linter.unusedSimpArgs false
set_option maxRecDepth 100000

def InsPost (w : World) (v : Value) (l : List Rt) (e : Ending) (w' : World) : Prop :=
  ∃ v', e = .returned v' ∧ Owns w' 0 77 4 v' l.length (rtsV l) ∧ OwnIn (fun b => v.ownBlock = some b ∨ w.heap.size ≤ b) v' ∧ Chg (fun g => v.ownBlock = some g) w w'
theorem rtsV_app (l k : List Rt) : rtsV (l ++ k) = rtsV l ++ rtsV k := by simp [rtsV]
theorem rtsV_len (l : List Rt) : (rtsV l).length = l.length * 4 := flat_len rtEn_length l
theorem rtsV_take (l : List Rt) (i : Nat) : (rtsV l).take (i * 4) = rtsV (l.take i) := by
  induction l generalizing i with
  | nil => simp [rtsV]
  | cons x l ih =>
    cases i with
    | zero => simp [rtsV]
    | succ i =>
      show (rtEn x ++ rtsV l).take ((i + 1) * 4) = rtEn x ++ rtsV (l.take i)
      rw [show (i + 1) * 4 = (rtEn x).length + i * 4 by rw [rtEn_length]; omega, List.take_length_add_append, ih]
theorem rtsV_drop (l : List Rt) (i : Nat) : (rtsV l).drop (i * 4) = rtsV (l.drop i) := by
  induction l generalizing i with
  | nil => simp [rtsV]
  | cons x l ih =>
    cases i with
    | zero => simp [rtsV]
    | succ i =>
      show (rtEn x ++ rtsV l).drop ((i + 1) * 4) = rtsV (l.drop i)
      rw [show (i + 1) * 4 = (rtEn x).length + i * 4 by rw [rtEn_length]; omega, List.drop_length_add_append, ih]
theorem cells_rts (l : List Rt) : ∀ u ∈ rtsV l, u.oneCell' = true := by
  intro u hu; obtain ⟨x, _, hx⟩ := List.mem_flatMap.1 hu; exact cells_rt x u hx
theorem insert_end (w : World) (v : Value) (l : List Rt) (hO : Owns w 0 77 4 v l.length (rtsV l)) (hlen : l.length ≤ 100000000) (vb : Nat) (r : Rt) (hV : Blk w vb 77 (rtEn r)) :
    Calls Tryz.prog 70 #[v, .int .i64 (l.length : Int), .slice (some ⟨vb, 0, none⟩) 1 1] w (InsPost w v (l ++ [r])) := by
  obtain ⟨n, hn⟩ : ∃ n, l.length = n := ⟨_, rfl⟩
  have HN := hid hn
  rw [hn] at hO hlen ⊢
  have HO := hid hO
  have HR := hid (Rd.of_blk (en := rtEn) (l := [r]) (by simpa using hV) rtEn_length (by unfold maxLen; simp))
  obtain ⟨A, cap, rfl, h1, h2, hf⟩ := Owns.form hO
  unfold maxLen at h2
  have HF := hid hf
  clear hn hO hV hf
  cases A with
  | none =>
    go_enter Tryz.func70, Tryz.ntmps70
    go_wp2_with (at_builtin; refine wpList_append_rdb rfl _ _ 47 rfl 77 _ 4 32 Tryz.underlying47 rt_row rfl (by decide) 0 _ n _ rfl HO.out _ rfl [r] HR.out rtEn_length cells_rt ?_ ?_ ?_ ?_)
    all_goals first
      | (intro v' w' hO' hI hC
         have HO' := hid hO'
         have HI := hid hI
         have HC := hid hC
         clear hO' hI hC
         go_wp2_with fail
         go_ret
         exact ⟨v', rfl, by rw [List.length_append, HN.out, rtsV_app]; exact HO'.out, HI.out, HC.out⟩)
      | (unfold maxLen; simp; omega)
      | (simp; omega)
      | exact Nat.zero_le _
  | some ad =>
    go_enter Tryz.func70, Tryz.ntmps70
    go_wp2_with (at_builtin; refine wpList_append_rdb rfl _ _ 47 rfl 77 _ 4 32 Tryz.underlying47 rt_row rfl (by decide) 0 _ n _ rfl HO.out _ rfl [r] HR.out rtEn_length cells_rt ?_ ?_ ?_ ?_)
    all_goals first
      | (intro v' w' hO' hI hC
         have HO' := hid hO'
         have HI := hid hI
         have HC := hid hC
         clear hO' hI hC
         go_wp2_with fail
         go_ret
         exact ⟨v', rfl, by rw [List.length_append, HN.out, rtsV_app]; exact HO'.out, HI.out, HC.out⟩)
      | (unfold maxLen; simp; omega)
      | (simp; omega)
      | exact Nat.zero_le _

theorem ins_cells {cur : List Value} {l : List Rt} {cap n i : Nat} (r : Rt) (hl : cur.length = cap * 4) (ht : cur.take (n * 4) = rtsV l) (hn : l.length = n) (hi : i < n) (hc : n + 1 ≤ cap) (c1 c2 : List Value)
    (e1 : c1 = cur.take ((i + 1) * 4) ++ (rtsV (l.drop i) ++ cur.drop ((i + 1) * 4 + (rtsV (l.drop i)).length))) (e2 : c2 = c1.take (i * 4) ++ (rtEn r ++ c1.drop (i * 4 + (rtEn r).length))) :
    c1.length = cap * 4 ∧ c2.length = cap * 4 ∧ c2.take ((n + 1) * 4) = rtsV (l.take i ++ r :: l.drop i) := by
  have hd : (rtsV (l.drop i)).length = (n - i) * 4 := by rw [rtsV_len, List.length_drop, hn]
  have h1 : c1.length = cap * 4 := by
    rw [e1]; simp only [List.length_append, List.length_take, List.length_drop, hd, hl]; omega
  have h2 : c1.take (i * 4) = rtsV (l.take i) := by
    rw [e1, List.take_append_of_le_length (by rw [List.length_take, hl]; omega), List.take_take, Nat.min_eq_left (by omega), ← rtsV_take, ← ht, List.take_take, Nat.min_eq_left (by omega)]
  have h3 : c1.drop (i * 4 + 4) = rtsV (l.drop i) ++ cur.drop ((i + 1) * 4 + (rtsV (l.drop i)).length) := by
    have hlen : (cur.take ((i + 1) * 4)).length = i * 4 + 4 := by rw [List.length_take, hl]; omega
    rw [e1, ← hlen, List.drop_left]
  have h4 : (rtEn r).length = 4 := rtEn_length r
  rw [h4] at e2
  rw [h2, h3] at e2
  have h5 : c2 = rtsV (l.take i ++ r :: l.drop i) ++ cur.drop ((i + 1) * 4 + (rtsV (l.drop i)).length) := by
    rw [e2]; simp [rtsV]
  refine ⟨h1, ?_, ?_⟩
  · rw [h5]; simp only [List.length_append, rtsV_len, List.length_cons, List.length_take, List.length_drop, hl, hn]; omega
  · rw [h5, List.take_append_of_le_length (by simp only [rtsV_len, List.length_append, List.length_cons, List.length_take, List.length_drop, hn]; omega), List.take_of_length_le (by simp only [rtsV_len, List.length_append, List.length_cons, List.length_take, List.length_drop, hn]; omega)]
theorem ins_len {l : List Rt} {n i : Nat} (r : Rt) (hn : l.length = n) (hi : i ≤ n) : (l.take i ++ r :: l.drop i).length = n + 1 := by
  simp only [List.length_append, List.length_cons, List.length_take, List.length_drop, hn]; omega

set_option maxHeartbeats 4000000 in
theorem insert_room (w : World) (g cap : Nat) (l : List Rt) (hO : Owns w 0 77 4 (.slice (some ⟨g, 0, none⟩) l.length cap) l.length (rtsV l)) (hlen : l.length ≤ 100000000) (i : Nat) (hi : i < l.length) (hroom : l.length < cap) (vb : Nat) (r : Rt)
    (hV : Blk w vb 77 (rtEn r)) (hvb : vb ≠ g) :
    Calls Tryz.prog 70 #[.slice (some ⟨g, 0, none⟩) l.length cap, .int .i64 (i : Int), .slice (some ⟨vb, 0, none⟩) 1 1] w (InsPost w (.slice (some ⟨g, 0, none⟩) l.length cap) (l.take i ++ r :: l.drop i)) := by
  obtain ⟨cur, hB, hcl, hnc, hcm, _, htk, hxl⟩ := hO.blk
  obtain ⟨n, hn⟩ : ∃ n, l.length = n := ⟨_, rfl⟩
  have HN := hid hn
  rw [hn] at htk
  rw [hn] at hi hlen hroom ⊢
  unfold maxLen at hcm
  have hsb : w.shape? g = some (77, cap * 4) := by
    have h := hB; unfold Blk at h; unfold World.shape?; rw [h]; simp [hcl]
  have hsa : w.shape? vb = some (77, 4) := by
    have h := hV; unfold Blk at h; unfold World.shape?; rw [h]; simp [rtEn]
  have hov : ∀ o lb cb, (callFunc 89 #[.slice (some ⟨vb, 0, none⟩) 1 1, .slice (some ⟨g, o, none⟩) lb cb]).run Tryz.prog w = .ok (.value (.bool false)) w := fun o lb cb => by
    rw [run_callFunc_extern (P := Tryz.prog) Tryz.func89 (by kernel_rfl) (by kernel_rfl) (by kernel_rfl) (e := Extern.SlicesOverlaps.overlaps #[47, 47] #[4]) (by kernel_rfl),
      Lib.run_overlaps_apart w 47 4 77 Tryz.underlying47 4 (fun _ => by kernel_rfl) ⟨vb, 0, none⟩ ⟨g, o, none⟩ 1 1 lb cb hvb _ _ 4 (cap * 4) hsa hsb (by omega) (hV.frozen 0) (hV.frozen 4)]
    rfl
  have HB := hid hB
  have HV := hid hV
  have HCL := hid hcl
  have HTK := hid htk
  clear hO hB hV hcl htk hxl hn hnc hsa hsb
  have hci : ¬ (cap = i) := by omega
  have hci1 : ¬ (cap = i + 1) := by omega
  have hin : ¬ ((i : Int) = (n : Int)) := by omega
  go_enter Tryz.func70, Tryz.ntmps70
  go_wp2_with (simp only [hov])
  have hw1 : IntKind.i64.wrap ((i : Int) + 1) = (i : Int) + 1 := by rw [IntKind.wrap_i64]; omega
  have hb1 : (0 : Int) ≤ (i : Int) + 1 := by omega
  have htn : ((i : Int) + 1).toNat = i + 1 := by omega
  have hb3 : (i : Int) ≤ (n : Int) + 1 := by omega
  have hb5 : (i : Int) + 1 ≤ (n : Int) + 1 := by omega
  have hb6 : (n : Int) + 1 ≤ (cap : Int) := by omega
  refine wp_region_tail 8 (by kernel_rfl) (by kernel_rfl) ?_
  simp only [List.take_succ_cons, List.take_zero, List.drop_succ_cons, List.drop_zero]
  repeat still_step
  refine wpStill_nil ?_
  have hnic : n + 1 ≤ cap := hroom
  have hsp : (i + 1) * 4 + (n - i) * 4 ≤ cap * 4 := by omega
  have hsrc : ∀ j v, (rtsV (l.drop i))[j]? = some v → w.drew.cell? ((⟨g, i * 4, none⟩ : Addr).add j) = some v := fun j v hj => by
    rw [Addr.add_lit]
    have hjl : j < (n - i) * 4 := by have h := (List.getElem?_eq_some_iff.1 hj).1; rw [rtsV_len, List.length_drop, HN.out] at h; exact h
    refine (HB.out.drew).cellv ?_
    have h2 : (rtsV l)[i * 4 + j]? = some v := by rw [← List.getElem?_drop, rtsV_drop]; exact hj
    rw [← HTK.out, List.getElem?_take] at h2
    split at h2
    · exact h2
    · cases h2
  have HSRC := hid hsrc
  clear hsrc
  go_wp2_with (refine wpList_copy_k rfl _ _ 47 47 rfl 77 4 Tryz.underlying47 (by kernel_rfl) g _ _ _ _ _ _ (rtsV (l.drop i)) cur 77 rfl rfl (n - i) ?_ ?_ HSRC.out HB.out.drew ?_ (cells_rts _) ?_)
  all_goals first
    | (intro w1 hB1 hC1
       have HC1 := hid (((Chg.refl (· = g) w).drew).trans' hC1)
       have HV1 := hid (HV.out.chg HC1.out hvb)
       have HS2 := hid (show ∀ j v, (rtEn r)[j]? = some v → w1.cell? ((⟨vb, 0, none⟩ : Addr).add j) = some v from fun j v hj => by rw [Addr.add_lit, Nat.zero_add]; exact HV1.out.cellv hj)
       obtain ⟨c1, hc1⟩ : ∃ c1, c1 = cur.take ((i + 1) * 4) ++ (rtsV (l.drop i) ++ cur.drop ((i + 1) * 4 + (rtsV (l.drop i)).length)) := ⟨_, rfl⟩
       rw [← hc1] at hB1
       have hl1 := (ins_cells r HCL.out HTK.out HN.out hi hnic c1 _ hc1 rfl).1
       have HC1E := hid hc1
       have HL1 := hid hl1
       have HB1 := hid hB1
       clear hB1 hC1 hc1 hl1
       go_wp2_with (refine wpList_copy_k rfl _ _ 47 47 rfl 77 4 Tryz.underlying47 (by kernel_rfl) g _ _ _ _ _ _ (rtEn r) c1 77 rfl rfl 1 ?_ ?_ HS2.out HB1.out ?_ (cells_rt r) ?_)
       all_goals first
         | (intro w2 hB2 hC2
            obtain ⟨c2, hc2⟩ : ∃ c2, c2 = c1.take (i * 4) ++ (rtEn r ++ c1.drop (i * 4 + (rtEn r).length)) := ⟨_, rfl⟩
            have hf := ins_cells r HCL.out HTK.out HN.out hi hnic c1 c2 HC1E.out hc2
            have HB2 := hid (show Blk w2 g 77 c2 by rw [hc2]; simpa using hB2)
            have HF := hid hf
            have HC2 := hid (HC1.out.trans' hC2)
            clear hB2 hC2 hc2 hf
            go_wp2_with fail
            go_ret
            refine ⟨_, rfl, ?_, fun b hb => .inl hb, HC2.out.mono fun z _ e => ?_⟩
            · rw [ins_len r HN.out (by omega)]
              exact Owns.of_blk HB2.out (Nat.zero_le _) HF.out.2.1 (by omega) (by unfold maxLen; omega) HF.out.2.2 (by rw [rtsV_len, ins_len r HN.out (by omega)])
            · subst e; rfl)
         | (rw [rtEn_length]; done)
         | (show Nat.min _ _ = _; simp only [Nat.min_def]; split <;> omega)
         | (rw [HL1.out, rtEn_length]; omega))
    | (show Nat.min _ _ = _; simp only [Nat.min_def]; split <;> omega)
    | (rw [rtsV_len, List.length_drop, HN.out]; done)
    | (rw [rtsV_len, List.length_drop, HN.out, HCL.out]; omega)

theorem grow_cells {row c1 c2 : List Value} {l : List Rt} {G n i : Nat} (r : Rt) (hl : row.length = G * 4) (ht : row.take (i * 4) = rtsV (l.take i)) (hn : l.length = n) (hi : i < n) (hc : n + 1 ≤ G)
    (e1 : c1 = row.take (i * 4) ++ (rtEn r ++ row.drop (i * 4 + (rtEn r).length))) (e2 : c2 = c1.take ((i + 1) * 4) ++ (rtsV (l.drop i) ++ c1.drop ((i + 1) * 4 + (rtsV (l.drop i)).length))) :
    c2.length = G * 4 ∧ c2.take ((n + 1) * 4) = rtsV (l.take i ++ r :: l.drop i) := by
  have hd : (rtsV (l.drop i)).length = (n - i) * 4 := by rw [rtsV_len, List.length_drop, hn]
  have h4 : (rtEn r).length = 4 := rtEn_length r
  have ht4 : (row.take (i * 4)).length = i * 4 := by rw [List.length_take, hl]; omega
  have h1 : c1.length = G * 4 := by
    rw [e1]; simp only [List.length_append, List.length_drop, ht4, h4, hl]; omega
  have h2 : c1.take ((i + 1) * 4) = rtsV (l.take i) ++ rtEn r := by
    rw [e1, ← List.append_assoc, ht, List.take_append_of_le_length (by rw [List.length_append, ← ht, ht4, h4]; omega), List.take_of_length_le (by rw [List.length_append, ← ht, ht4, h4]; omega)]
  have h5 : c2 = rtsV (l.take i ++ r :: l.drop i) ++ c1.drop ((i + 1) * 4 + (rtsV (l.drop i)).length) := by
    rw [e2, h2]; simp [rtsV]
  refine ⟨?_, ?_⟩
  · rw [h5]; simp only [List.length_append, rtsV_len, List.length_cons, List.length_take, List.length_drop, h1, hn]; omega
  · rw [h5, List.take_append_of_le_length (by simp only [rtsV_len, List.length_append, List.length_cons, List.length_take, List.length_drop, hn]; omega), List.take_of_length_le (by simp only [rtsV_len, List.length_append, List.length_cons, List.length_take, List.length_drop, hn]; omega)]

set_option maxHeartbeats 4000000 in
theorem insert_grow (w : World) (g : Nat) (l : List Rt) (hO : Owns w 0 77 4 (.slice (some ⟨g, 0, none⟩) l.length l.length) l.length (rtsV l)) (hlen : l.length ≤ 100000000) (i : Nat) (hi : i < l.length) (vb : Nat) (r : Rt)
    (hV : Blk w vb 77 (rtEn r)) :
    Calls Tryz.prog 70 #[.slice (some ⟨g, 0, none⟩) l.length l.length, .int .i64 (i : Int), .slice (some ⟨vb, 0, none⟩) 1 1] w (InsPost w (.slice (some ⟨g, 0, none⟩) l.length l.length) (l.take i ++ r :: l.drop i)) := by
  obtain ⟨cur, hB, hcl, hnc, hcm, _, htk, hxl⟩ := hO.blk
  obtain ⟨n, hn⟩ : ∃ n, l.length = n := ⟨_, rfl⟩
  have HN := hid hn
  rw [hn] at htk hi hlen hcl ⊢
  obtain ⟨ti, hti, hzz⟩ := Option.map_eq_some_iff.1 rt_row
  simp only [Prod.mk.injEq] at hzz
  obtain ⟨hz, hsi, hby⟩ := hzz
  have hkk : (n : Int) + 1 - (i : Int) = ((n + 1 - i : Nat) : Int) := by omega
  have hik : i + (n + 1 - i) = n + 1 := by omega
  have hold : (Builtin.firstCells ti.size i (.slice (some ⟨g, 0, none⟩) i n)).run Tryz.prog w.drew = .ok (rtsV (l.take i)).toArray w.drew := by
    rw [hsi]
    exact run_firstCells_some w.drew 4 i ⟨g, 0, none⟩ i n (rtsV (l.take i)) (by rw [rtsV_len, List.length_take, hn]; omega) (fun j v hj => by
      rw [Addr.add_lit, Nat.zero_add]
      refine hB.drew.cellv ?_
      rw [← rtsV_take, ← htk, List.take_take, Nat.min_eq_left (by omega), List.getElem?_take] at hj
      split at hj
      · exact hj
      · cases hj)
  obtain ⟨G, hG⟩ : ∃ G, G = grownCap w (n + 1) n 77 := ⟨_, rfl⟩
  obtain ⟨ROW, hROW⟩ : ∃ ROW : Array Value, ROW = (rtsV (l.take i)).toArray ++ Builtin.zeroCells (Value.agg #[.int .u64 0, .int .u64 0, .int .i64 0, .int .i64 0]).cells (n + 1 - i) ++ Builtin.zeroCells (Value.agg #[.int .u64 0, .int .u64 0, .int .i64 0, .int .i64 0]).cells (G - (n + 1)) := ⟨_, rfl⟩
  have hrz : ∀ ty, (Builtin.append_ #[47, 3] ty #[.slice (some ⟨g, 0, none⟩) i n, .int .i64 ((n : Int) + 1 - (i : Int))]).run Tryz.prog w = .ok (.slice (some ⟨w.heap.size, 0, none⟩) (n + 1) G) (w.drew.alloc (.cells ROW 77)) := fun ty => by
    have h := Lib.run_append_grow_zeros w 47 3 ty 77 ti _ .i64 .i64 Tryz.underlying47 Tryz.underlying3 hti hz (some ⟨g, 0, none⟩) i n (rtsV (l.take i)) hold (n + 1 - i) (by omega) (by omega) (by omega) (by omega) (by rw [hby]; omega) (by rw [hby, hik]; exact growslice_fits (by omega) (by omega))
    rw [hik] at h
    rw [hkk, hROW, hG]
    exact h
  have hGn : n + 1 ≤ G := by rw [hG]; exact grownCap_ge w _ _ _
  have hGm : G ≤ maxLen := by rw [hG]; exact grownCap_le_maxLen w (n + 1) n 77 (by unfold maxLen; omega)
  have hRl : ROW.toList.length = G * 4 := by
    rw [hROW]; simp [Builtin.zeroCells, Value.cells, rtsV_len, hn]; omega
  have hRt : ROW.toList.take (i * 4) = rtsV (l.take i) := by
    rw [hROW]
    simp only [Array.toList_append, List.append_assoc]
    have : (rtsV (l.take i)).length = i * 4 := by rw [rtsV_len, List.length_take, hn]; omega
    rw [← this, List.take_left]
  have hgw := hB.lt
  have hvw := hV.lt
  have HB0 := hid hB
  have HBW := hid (Blk.new_at w.drew ROW 77 w.heap.size rfl)
  have hb0 : Below w.heap.size w (w.drew.alloc (.cells ROW 77)) := ((Below.refl _ _).drew).alloc (Nat.le_refl _) _
  have HBL := hid hb0
  have HV := hid (hV.below' hb0)
  have HBO := hid (hB.below' hb0)
  have HTK := hid htk
  have HRL := hid hRl
  have HRT := hid hRt
  have HRZ := hid hrz
  clear hO hB hV htk hxl hn hnc hti hz hsi hby hold hROW hG hRl hRt hb0 hik hkk hcl hcm HB0 hrz
  unfold maxLen at hGm
  have hGi : ¬ (G = i) := by omega
  have hGi1 : ¬ (G = i + 1) := by omega
  have hci : ¬ (n = i) := by omega
  have hin : ¬ ((i : Int) = (n : Int)) := by omega
  have hw1 : IntKind.i64.wrap ((i : Int) + 1) = (i : Int) + 1 := by rw [IntKind.wrap_i64]; omega
  have hb1 : (0 : Int) ≤ (i : Int) + 1 := by omega
  have htn : ((i : Int) + 1).toNat = i + 1 := by omega
  have hb3 : (i : Int) ≤ (n : Int) + 1 := by omega
  have hb5 : (i : Int) + 1 ≤ (n : Int) + 1 := by omega
  have hb6 : (i : Int) ≤ (n : Int) := by omega
  go_enter Tryz.func70, Tryz.ntmps70
  have HS1 := hid (show ∀ j v, (rtEn r)[j]? = some v → (w.drew.alloc (.cells ROW 77)).cell? ((⟨vb, 0, none⟩ : Addr).add j) = some v from fun j v hj => by rw [Addr.add_lit, Nat.zero_add]; exact HV.out.cellv hj)
  have HLEN := hid (show ∀ c1, c1 = ROW.toList.take (i * 4) ++ (rtEn r ++ ROW.toList.drop (i * 4 + (rtEn r).length)) → c1.length = G * 4 from fun c1 h => by
    rw [h]; simp only [List.length_append, List.length_take, List.length_drop, rtEn_length, HRL.out]; omega)
  go_wp2_with (first
    | (at_builtin; refine Lib.wpList_append_run _ rfl _ _ _ _ rfl _ _ rfl rfl _ _ (HRZ.out _) ?_)
    | (refine wpList_copy_k rfl _ _ 47 47 rfl 77 4 Tryz.underlying47 (by kernel_rfl) w.heap.size _ _ _ _ _ _ (rtEn r) ROW.toList 77 rfl rfl 1 ?_ ?_ HS1.out HBW.out ?_ (cells_rt r) ?_))
  all_goals first
    | (intro w2 hB2 hC2
       obtain ⟨c1, hc1⟩ : ∃ c1, c1 = ROW.toList.take (i * 4) ++ (rtEn r ++ ROW.toList.drop (i * 4 + (rtEn r).length)) := ⟨_, rfl⟩
       have HB2 := hid (show Blk w2 w.heap.size 77 c1 by rw [hc1]; simpa using hB2)
       have HC1E := hid hc1
       have HL1 := hid (HLEN.out c1 hc1)
       have HCC := hid (show Chg (· = w.heap.size) (w.drew.alloc (.cells ROW 77)) w2 from hC2)
       have HBO2 := hid (HBO.out.chg HCC.out (by omega))
       clear hB2 hC2 hc1
       have HS2 := hid (show ∀ j v, (rtsV (l.drop i))[j]? = some v → w2.drew.cell? ((⟨g, i * 4, none⟩ : Addr).add j) = some v from fun j v hj => by
         rw [Addr.add_lit]
         refine (HBO2.out.drew).cellv ?_
         have h2 : (rtsV l)[i * 4 + j]? = some v := by rw [← List.getElem?_drop, rtsV_drop]; exact hj
         rw [← HTK.out, List.getElem?_take] at h2
         split at h2
         · exact h2
         · cases h2)
       go_wp2_with fail
       refine wp_region_tail 8 (by kernel_rfl) (by kernel_rfl) ?_
       simp only [List.take_succ_cons, List.take_zero, List.drop_succ_cons, List.drop_zero]
       repeat still_step
       refine wpStill_nil ?_
       go_wp2_with (refine wpList_copy_k rfl _ _ 47 47 rfl 77 4 Tryz.underlying47 (by kernel_rfl) w.heap.size _ _ _ _ _ _ (rtsV (l.drop i)) c1 77 rfl rfl (n - i) ?_ ?_ HS2.out HB2.out.drew ?_ (cells_rts _) ?_)
       all_goals first
         | (intro w3 hB3 hC3
            obtain ⟨c2, hc2⟩ : ∃ c2, c2 = c1.take ((i + 1) * 4) ++ (rtsV (l.drop i) ++ c1.drop ((i + 1) * 4 + (rtsV (l.drop i)).length)) := ⟨_, rfl⟩
            have hf := grow_cells r HRL.out HRT.out HN.out hi hGn HC1E.out hc2
            have HB3 := hid (show Blk w3 w.heap.size 77 c2 by rw [hc2]; simpa using hB3)
            have HF := hid hf
            have hch : Chg (· = w.heap.size) (w.drew.alloc (.cells ROW 77)) w3 := HCC.out.drew.trans' hC3
            have HB4 := hid (HBL.out.trans (hch.below HBL.out.size (fun z hz e => by omega)))
            clear hB3 hC3 hc2 hf hch
            go_wp2_with fail
            go_ret
            refine ⟨_, rfl, ?_, fun b hb => ?_, Chg.of_below HB4.out _⟩
            · rw [ins_len r HN.out (by omega)]
              exact Owns.of_blk HB3.out (Nat.zero_le _) HF.out.1 hGn (by unfold maxLen; omega) HF.out.2 (by rw [rtsV_len, ins_len r HN.out (by omega)])
            · simp [Value.ownBlock] at hb; exact .inr (by omega))
         | (show Nat.min _ _ = _; simp only [Nat.min_def]; split <;> omega)
         | (rw [rtsV_len, List.length_drop, HN.out]; done)
         | (rw [rtsV_len, List.length_drop, HN.out, HL1.out]; omega))
    | (show Nat.min _ _ = _; simp only [Nat.min_def]; split <;> omega)
    | (rw [rtEn_length]; done)
    | (rw [rtEn_length, HRL.out]; omega)

/-- slices.Insert of one route. -/
theorem slices_insert (w : World) (v : Value) (l : List Rt) (hO : Owns w 0 77 4 v l.length (rtsV l)) (hlen : l.length ≤ 100000000) (i : Nat) (hi : i ≤ l.length) (vb : Nat) (r : Rt) (hV : Blk w vb 77 (rtEn r)) (hvb : v.ownBlock ≠ some vb) :
    Calls Tryz.prog 70 #[v, .int .i64 (i : Int), .slice (some ⟨vb, 0, none⟩) 1 1] w (InsPost w v (l.take i ++ r :: l.drop i)) := by
  by_cases he : i = l.length
  · subst he
    have h := insert_end w v l hO hlen vb r hV
    rw [List.take_length, List.drop_length]
    exact h
  · obtain ⟨A, cap, rfl, h1, h2, hf⟩ := Owns.form hO
    obtain ⟨g, rfl, _⟩ := hf (by omega)
    by_cases hr : l.length < cap
    · exact insert_room w g cap l hO hlen i (by omega) hr vb r hV (fun e => hvb (by rw [e]; rfl))
    · obtain rfl : cap = l.length := by omega
      exact insert_grow w g l hO hlen i (by omega) vb r hV

end Go.Proofs.YtpjjijhojcfmnaaGreat

namespace Go.Proofs.YtpjjijhojcfmnaaGreat
open Go.RowKit
set_option linter.unusedVariables false
set_option linter.unusedSimpArgs false
set_option maxRecDepth 100000

section
variable {P : Program} {ops : Array Oper} {rest : List Oper} {o : Oper} {a : Act} {Q : Exit → Act → World → Prop} {w : World}
theorem setRow_chg (w : World) (g : Nat) (cs : Array Value) : Chg (· = g) w (w.setRow g cs) := ⟨rfl, rfl, rfl, by simp [World.setRow], fun i _ hn => setRow_other w g i cs hn⟩
theorem wpList_append_room (hgd : o.guard = none) (s x : Operand) (t : TypeId) (ho : o.op = .call { callee := .builtin .append, args := #[s, x], argTypes := #[t, t] })
    (e : TypeId) (k : Nat) (ht : P.underlying t = some (.slice e)) (hinfo : (P.info? e).map (·.size) = some k) (g n cap : Nat) (cur : List Value) (hs : a.eval s = .slice (some ⟨g, 0, none⟩) n cap) (hB : Blk w g e cur)
    (ad : Addr) (m c : Nat) (hx : a.eval x = .slice (some ad) m c) (news : List Value) (hl : news.length = m * k) (hnews : ∀ j u, news[j]? = some u → w.cell? (ad.add j) = some u) (h1 : ∀ u ∈ news, u.oneCell' = true) (hroom : n + m ≤ cap) (hfit : n * k + news.length ≤ cur.length)
    (h : ∀ w', Blk w' g e (cur.take (n * k) ++ news ++ cur.drop (n * k + news.length)) → Chg (· = g) w w' → wpList P ops Q rest (a.put o.dst (.slice (some ⟨g, 0, none⟩) (n + m) cap)) w') : wpList P ops Q (o :: rest) a w := by
  refine wpList_plain hgd fun K hK => ?_
  obtain ⟨i, hi, hsi⟩ := Option.map_eq_some_iff.1 hinfo
  subst hsi
  have hr := run_append_room (P := P) w t o.type e i ht hi g n cap cur.toArray hB ad m c news hl hnews h1 hroom (by simpa using hfit)
  unfold Oper.wp
  simp only [execOp, ho, resolve, invoke, builtin, Sem.run_bind, Sem.run_pure, Result.andThen_ok, List.map_toArray, List.map_cons, List.map_nil, hs, hx, hr]
  exact hK _ _ (h _ (setRow_heap w g cur.toArray _ e _ hB) (setRow_chg w g _))
theorem wpList_clear_k (hgd : o.guard = none) (s : Operand) (t : TypeId) (ho : o.op = .call { callee := .builtin .clear, args := #[s], argTypes := #[t] })
    (e : TypeId) (ht : P.underlying t = some (.slice e)) (z : Value) (hz : ∀ w, (zeroValue e).run P w = .ok z w) (g off n c : Nat) (hs : a.eval s = .slice (some ⟨g, off, none⟩) (n + 1) c) (cur : List Value) (te : TypeId) (hB : Blk w g te cur)
    (zs : List Value) (hzs : (Builtin.zeroCells z.cells (n + 1)).toList = zs) (hfit : off + zs.length ≤ cur.length) (h1 : ∀ v ∈ zs, v.oneCell' = true)
    (h : ∀ w', Blk w' g te (cur.take off ++ zs ++ cur.drop (off + zs.length)) → Chg (· = g) w w' → wpList P ops Q rest (a.put o.dst (.tuple #[])) w') : wpList P ops Q (o :: rest) a w := by
  refine wpList_plain hgd fun K hK => ?_
  have hst := run_storeCells_cells (P := P) g off zs 0 w (fun j hj => by rw [hB.cell, List.getElem?_eq_getElem (by omega)]; rfl) (fun j hj => hB.frozen _) h1
  simp only [Nat.add_zero] at hst
  have hr : (Builtin.clear_ #[t] o.type #[.slice (some ⟨g, off, none⟩) (n + 1) c]).run P w = .ok (.tuple #[]) (w.setCells g off zs) := by
    simp [Builtin.clear_, run_underlying ht, hz, hzs, hst]
  unfold Oper.wp
  simp only [execOp, ho, resolve, invoke, builtin, Sem.run_bind, Sem.run_pure, Result.andThen_ok, List.map_toArray, List.map_cons, List.map_nil, hs, hr]
  exact hK _ _ (h _ (hB.setCells zs off hfit) (setCells_chg g zs off w))
end
theorem del_cells {cur c1 c2 zs : List Value} {l : List Rt} {cap n i : Nat} (hl : cur.length = cap * 4) (ht : cur.take (n * 4) = rtsV l) (hn : l.length = n) (hi : i < n) (hc : n ≤ cap)
    (e1 : c1 = cur.take (i * 4) ++ (rtsV (l.drop (i + 1)) ++ cur.drop (i * 4 + (rtsV (l.drop (i + 1))).length))) (hz : zs.length = 4) (e2 : c2 = c1.take ((n - 1) * 4) ++ (zs ++ c1.drop ((n - 1) * 4 + zs.length))) :
    c1.length = cap * 4 ∧ c2.length = cap * 4 ∧ c2.take ((n - 1) * 4) = rtsV (l.eraseIdx i) := by
  have hd : (rtsV (l.drop (i + 1))).length = (n - 1 - i) * 4 := by rw [rtsV_len, List.length_drop, hn]; omega
  have h1 : c1.length = cap * 4 := by
    rw [e1]; simp only [List.length_append, List.length_take, List.length_drop, hd, hl]; omega
  have h3 : cur.take (i * 4) = rtsV (l.take i) := by rw [← rtsV_take, ← ht, List.take_take, Nat.min_eq_left (by omega)]
  have h4 : c1.take ((n - 1) * 4) = rtsV (l.eraseIdx i) := by
    rw [e1, ← List.append_assoc, List.take_append_of_le_length (by simp only [List.length_append, List.length_take, hd, hl]; omega), List.take_of_length_le (by simp only [List.length_append, List.length_take, hd, hl]; omega), h3, ← rtsV_app, List.eraseIdx_eq_take_drop_succ]
  have h5 : (c1.take ((n - 1) * 4)).length = (n - 1) * 4 := by rw [List.length_take, h1]; omega
  refine ⟨h1, ?_, ?_⟩
  · rw [e2]; simp only [List.length_append, h5, hz, List.length_drop, h1]; omega
  · rw [e2, List.take_append_of_le_length (by rw [h5]; omega), List.take_of_length_le (by rw [h5]; omega), h4]
def DlPost (w : World) (g n cap : Nat) (l : List Rt) (e : Ending) (w' : World) : Prop :=
  e = .returned (.slice (some ⟨g, 0, none⟩) (n - 1) cap) ∧ Owns w' 0 77 4 (.slice (some ⟨g, 0, none⟩) (n - 1) cap) l.length (rtsV l) ∧ Chg (· = g) w w'
set_option maxHeartbeats 4000000 in
theorem slices_delete (w : World) (g cap : Nat) (l : List Rt) (hO : Owns w 0 77 4 (.slice (some ⟨g, 0, none⟩) l.length cap) l.length (rtsV l)) (hlen : l.length ≤ 100000000) (i : Nat) (hi : i < l.length) :
    Calls Tryz.prog 75 #[.slice (some ⟨g, 0, none⟩) l.length cap, .int .i64 (i : Int), .int .i64 ((i : Int) + 1)] w (DlPost w g l.length cap (l.eraseIdx i)) := by
  obtain ⟨cur, hB, hcl, hnc, hcm, _, htk, hxl⟩ := hO.blk
  obtain ⟨n, hn⟩ : ∃ n, l.length = n := ⟨_, rfl⟩
  have HN := hid hn
  rw [hn] at htk hi hlen hnc ⊢
  unfold maxLen at hcm
  have hsrc : ∀ a : Addr, (i + 1 < n → a = ⟨g, (i + 1) * 4, none⟩) → ∀ j v, (rtsV (l.drop (i + 1)))[j]? = some v → w.drew.cell? (a.add j) = some v := fun a ha j v hj => by
    have hjl : j < (n - (i + 1)) * 4 := by have h := (List.getElem?_eq_some_iff.1 hj).1; rw [rtsV_len, List.length_drop, hn] at h; exact h
    rw [ha (by omega), Addr.add_lit]
    refine hB.drew.cellv ?_
    have h2 : (rtsV l)[(i + 1) * 4 + j]? = some v := by rw [← List.getElem?_drop, rtsV_drop]; exact hj
    rw [← htk, List.getElem?_take] at h2
    split at h2
    · exact h2
    · cases h2
  have HB := hid hB
  have HCL := hid hcl
  have HTK := hid htk
  have HSRC := hid hsrc
  have HD := hid (show (rtsV (l.drop (i + 1))).length = (n - (i + 1)) * 4 by rw [rtsV_len, List.length_drop, hn])
  have HLE := hid (show (l.eraseIdx i).length = n - 1 by rw [List.length_eraseIdx, hn, if_pos (by omega)])
  clear hO hB hcl htk hxl hn hsrc
  have hne : ¬ ((i : Int) = (i : Int) + 1) := by omega
  have hw1 : IntKind.i64.wrap ((i : Int) + 1) = (i : Int) + 1 := by rw [IntKind.wrap_i64]; omega
  have hb1 : (0 : Int) ≤ (i : Int) + 1 := by omega
  have htn : ((i : Int) + 1).toNat = i + 1 := by omega
  have hb3 : (i : Int) ≤ (i : Int) + 1 := by omega
  have hb5 : (i : Int) + 1 ≤ (n : Int) := by omega
  have hci : ¬ (cap = i) := by omega
  have hbe : ((i : Int) == (i : Int) + 1) = false := by rw [beq_eq_false_iff_ne]; omega
  have hcap1 : (n : Int) ≤ (cap : Int) := by omega
  have hb7 : (i : Int) ≤ (cap : Int) := by omega
  by_cases hcap : cap = i + 1
  all_goals
    go_enter Tryz.func75, Tryz.ntmps75
    go_wp2_with fail
    refine wp_region_tail 6 (by kernel_rfl) (by kernel_rfl) ?_
    simp only [List.take_succ_cons, List.take_zero, List.drop_succ_cons, List.drop_zero]
    repeat still_step
    refine wpStill_nil ?_
    go_wp2_with (refine wpList_append_room rfl _ _ 47 rfl 77 4 Tryz.underlying47 (by kernel_rfl) g i _ cur rfl HB.out.drew _ (n - (i + 1)) _ rfl (rtsV (l.drop (i + 1))) HD.out (HSRC.out _ (fun h => by first | rfl | omega)) (cells_rts _) ?_ ?_ ?_)
    all_goals first
      | omega
      | (rw [HD.out, HCL.out]; omega)
      | (intro w1 hB1 hC1
         obtain ⟨c1, hc1⟩ : ∃ c1, c1 = cur.take (i * 4) ++ (rtsV (l.drop (i + 1)) ++ cur.drop (i * 4 + (rtsV (l.drop (i + 1))).length)) := ⟨_, rfl⟩
         have HB1 := hid (show Blk w1 g 77 c1 by rw [hc1]; simpa using hB1)
         have HC1 := hid (((Chg.refl (· = g) w).drew).trans' hC1)
         have HF := hid (fun c2 zs => del_cells (c1 := c1) (c2 := c2) (zs := zs) HCL.out HTK.out HN.out hi hnc hc1)
         have HL1 := hid ((HF.out (c1.take ((n - 1) * 4) ++ ([.int .u64 0, .int .u64 0, .int .i64 0, .int .i64 0] ++ c1.drop ((n - 1) * 4 + 4))) [.int .u64 0, .int .u64 0, .int .i64 0, .int .i64 0] rfl rfl).1)
         have e1 : i + (n - (i + 1)) = n - 1 := by omega
         rw [e1]
         obtain ⟨q, hq⟩ : ∃ q, n - 1 = q := ⟨_, rfl⟩
         have hnq : n = q + 1 := by omega
         rw [hq]
         rw [hq] at HF HLE
         clear hB1 hC1 hc1 e1 hq
         subst hnq
         have hq1 : ¬ (cap = q) := by omega
         have hq2 : (q : Int) ≤ (q : Int) + 1 := by omega
         go_wp2_with (refine wpList_clear_k rfl _ 47 rfl 77 Tryz.underlying47 (.agg #[.int .u64 0, .int .u64 0, .int .i64 0, .int .i64 0]) (fun _ => by kernel_rfl) g (q * 4) 0 _ rfl c1 77 HB1.out [.int .u64 0, .int .u64 0, .int .i64 0, .int .i64 0] (by kernel_rfl) ?_ ?_ ?_)
         all_goals first
           | omega
           | (rw [HL1.out]; simp only [List.length_cons, List.length_nil]; omega)
           | (intro u hu; simp only [List.mem_cons, List.not_mem_nil, or_false, or_self] at hu; rcases hu with rfl | rfl | rfl | rfl <;> rfl)
           | (intro u hu; simp only [List.mem_cons, List.not_mem_nil, or_false, or_self] at hu; rcases hu with rfl | rfl <;> rfl)
           | (intro w2 hB2 hC2
              have HC2 := hid (HC1.out.trans' hC2)
              obtain ⟨c2, hc2⟩ : ∃ c2, c2 = c1.take (q * 4) ++ ([.int .u64 0, .int .u64 0, .int .i64 0, .int .i64 0] ++ c1.drop (q * 4 + 4)) := ⟨_, rfl⟩
              have HB2 := hid (show Blk w2 g 77 c2 by rw [hc2]; simpa using hB2)
              have HF2 := hid (HF.out c2 [.int .u64 0, .int .u64 0, .int .i64 0, .int .i64 0] rfl hc2)
              clear hB2 hC2 hc2
              go_wp2_with fail
              go_ret
              refine ⟨by first | rfl | (rw [hcap]; rfl), ?_, HC2.out⟩
              rw [HLE.out]
              exact Owns.of_blk HB2.out (Nat.zero_le _) HF2.out.2.1 (by omega) (by unfold maxLen; omega) HF2.out.2.2 (by rw [rtsV_len, HLE.out, Nat.add_sub_cancel])))

end Go.Proofs.YtpjjijhojcfmnaaGreat

namespace Go.Proofs.YtpjjijhojcfmnaaGreat
open Go.RowKit
set_option linter.unusedVariables false
set_option linter.unusedSimpArgs false
set_option maxRecDepth 100000

def bksV (bs : List (List Plc)) : List Value := bs.flatMap (·.flatMap plcEn)
/-- The table at block g, its buckets in block q, its stash the slice v. -/
structure TwQ (w : World) (g q : Nat) (v : Value) (t : Tb) : Prop where
  top : Blk w g 94 [.int .u64 (t.s : Int), .slice (some ⟨q, 0, none⟩) t.n t.n, v]
  bk : Blk w q 116 (bksV t.bs)
  st : Owns w 0 77 4 v t.st.length (rtsV t.st)
  gq : g ≠ q
  gv : v.ownBlock ≠ some g
  qv : v.ownBlock ≠ some q
theorem TwQ.chg {w w' : World} {g q : Nat} {v : Value} {t : Tb} {S : Nat → Prop} (H : TwQ w g q v t) (h : Chg S w w') (hg : ¬ S g) (hq : ¬ S q) (hv : ∀ b, v.ownBlock = some b → ¬ S b) : TwQ w' g q v t :=
  ⟨H.top.chg h hg, H.bk.chg h hq, Owns.chg H.st h hv, H.gq, H.gv, H.qv⟩
theorem TwQ.below {w w' : World} {g q : Nat} {v : Value} {t : Tb} (H : TwQ w g q v t) (h : Below w.heap.size w w') : TwQ w' g q v t :=
  H.chg (Chg.of_below h (fun _ => False)) id id (fun _ _ => id)

theorem ck_two {w : World} {g q : Nat} {v : Value} {t : Tb} (H : TwQ w g q v t) (hs : t.s < 2 ^ 64) (hn : t.n ≤ 65536) (p : Pf) (hp : p.1.ok) :
    Calls Tryz.prog 54 #[.pointer (some ⟨g, 0, none⟩), .agg #[.int .u64 (p.1.1 : Int), .int .u64 (p.1.2 : Int), .int .i64 p.2]] w fun e w' =>
      e = .returned (.tuple #[.int .i64 (t.b1 p : Int), .int .i64 (t.b2 p : Int)]) ∧ Below w.heap.size w w' := by
  have c1 := hid fun w => (show Calls Tryz.prog 81 #[.int .u64 (t.s : Int), .agg #[.int .u64 (p.1.1 : Int), .int .u64 (p.1.2 : Int), .int .i64 p.2], .int .i64 (t.n : Int)] w fun e w' =>
      e = .returned (.tuple #[.int .i64 (t.b1 p : Int), .int .i64 (t.b2 p : Int)]) ∧ Below w.heap.size w w' from pick_buckets t.s hs p hp (t.n : Int) (by omega) w)
  have ht := H.top.alloc (.cells #[.int .u64 (p.1.1 : Int), .int .u64 (p.1.2 : Int), .int .i64 p.2] 38)
  have hpb := Blk.new_at w #[.int .u64 (p.1.1 : Int), .int .u64 (p.1.2 : Int), .int .i64 p.2] 38 w.heap.size rfl
  have hb := (Below.refl w.heap.size w).alloc (Nat.le_refl _) (.cells #[.int .u64 (p.1.1 : Int), .int .u64 (p.1.2 : Int), .int .i64 p.2] 38)
  have HT := hid ht
  have HP := hid hpb
  have HB := hid hb
  clear ht hpb hb H hs hn hp
  generalize t.b1 p = x1 at c1 ⊢
  generalize t.b2 p = x2 at c1 ⊢
  generalize t.n = n at *
  generalize t.s = s at *
  obtain ⟨⟨a, b⟩, i⟩ := p
  simp only at c1 HT HP HB ⊢
  go_enter Tryz.func54, Tryz.ntmps54
  go_wp2_with fail
  refine wp_region_later (fun w' => w'.cell? ⟨g, 0, none⟩ = some (.int .u64 (s : Int)) ∧ w'.cell? ⟨g, 1, none⟩ = some (.slice (some ⟨q, 0, none⟩) n n) ∧ w'.cell? ⟨w.heap.size, 0, none⟩ = some (.int .u64 (a : Int)) ∧ w'.cell? ⟨w.heap.size, 1, none⟩ = some (.int .u64 (b : Int)) ∧ w'.cell? ⟨w.heap.size, 2, none⟩ = some (.int .i64 i))
    (fun z => ⟨z.cell (HT.out.cellv rfl), z.cell (HT.out.cellv rfl), z.cell (HP.out.cellv rfl), z.cell (HP.out.cellv rfl), z.cell (HP.out.cellv rfl)⟩) (by kernel_rfl) (by kernel_rfl) (fun HS => ?_)
  repeat (go_big_quiet_step (with_reducible exact Later.calls _ (c1.out _)))
  refine wpQuiet_nil ?_
  rintro _ ⟨⟨w2, hb2⟩, rfl⟩
  have HB2 := hid (held_next HB.out hb2)
  clear hb2 HS
  go_wp2_with fail
  go_ret2
  exact ⟨rfl, HB2.out⟩

theorem bksV_len : ∀ {bs : List (List Plc)}, (∀ b ∈ bs, b.length = 4) → (bksV bs).length = bs.length * 20
  | [], _ => rfl
  | b :: bs, h => by
    have ih := bksV_len (bs := bs) fun x hx => h x (by simp [hx])
    unfold bksV at *
    rw [List.flatMap_cons, List.length_append, ih, List.length_cons]
    obtain ⟨x, y, z, u, rfl⟩ := four (h b (by simp))
    simp [plcEn]; omega
theorem flat_split {α β : Type} (f : α → List β) (a : List α) (x : α) (c : List α) : (a ++ x :: c).flatMap f = a.flatMap f ++ f x ++ c.flatMap f := by simp
theorem bksV_split {t : Tb} {i : Nat} (hi : i < t.n) : bksV t.bs = bksV (t.bs.take i) ++ (t.at i).flatMap plcEn ++ bksV (t.bs.drop (i + 1)) := by
  have h := Tb.get_at hi
  obtain ⟨hk, e⟩ := List.getElem?_eq_some_iff.1 h
  rw [← e]
  have e2 : t.bs = t.bs.take i ++ t.bs[i] :: t.bs.drop (i + 1) := by rw [← List.drop_eq_getElem_cons hk, List.take_append_drop]
  unfold bksV
  exact (congrArg (fun l : List (List Plc) => l.flatMap (·.flatMap plcEn)) e2).trans (flat_split _ _ _ _)
theorem bksV_set {t : Tb} {i : Nat} (hi : i < t.n) (b : List Plc) : bksV (t.set i b).bs = bksV (t.bs.take i) ++ b.flatMap plcEn ++ bksV (t.bs.drop (i + 1)) := by
  unfold Tb.set bksV
  simp only
  rw [List.set_eq_take_append_cons_drop, if_pos (show i < t.bs.length from hi)]
  simp
theorem TwQ.bkAt {w : World} {g q : Nat} {v : Value} {t : Tb} (H : TwQ w g q v t) {i : Nat} (hi : i < t.n) (hl : ∀ b ∈ t.bs, b.length = 4) : Bk w q (i * 20) (bksV (t.bs.take i)) (bksV (t.bs.drop (i + 1))) (t.at i) := by
  refine ⟨by rw [← bksV_split hi]; exact H.bk, hl _ (List.mem_of_getElem? (Tb.get_at hi)), ?_⟩
  rw [bksV_len fun b hb => hl b (List.mem_of_mem_take hb), List.length_take, Nat.min_eq_left (show i ≤ t.bs.length from Nat.le_of_lt hi)]
theorem TwQ.set {w w' : World} {g q : Nat} {v : Value} {t : Tb} (H : TwQ w g q v t) {i : Nat} (hi : i < t.n) {b : List Plc} (hb : Bk w' q (i * 20) (bksV (t.bs.take i)) (bksV (t.bs.drop (i + 1))) b) (hc : Chg (· = q) w w') : TwQ w' g q v (t.set i b) :=
  ⟨by rw [Tb.set_n]; exact H.top.chg hc H.gq, by rw [bksV_set hi]; exact hb.top, Owns.chg H.st hc (fun b hb e => H.qv (by rw [hb, e])), H.gq, H.gv, H.qv⟩
theorem ck_bput {w : World} {g q : Nat} {v : Value} {t : Tb} (H : TwQ w g q v t) {i : Nat} (hi : i < t.n) (hl : ∀ b ∈ t.bs, b.length = 4) (p : Pf) (x : Int) :
    Calls Tryz.prog 67 #[.pointer (some ⟨q, i * 20, none⟩), p.v, .int .i64 x] w fun e w' => e = .returned (.bool (canB (t.at i) p)) ∧ TwQ w' g q v (t.set i (putB (t.at i) p x)) ∧ Chg (· = q) w w' :=
  (bk_put (H.bkAt hi hl) p x).mono fun e w' ⟨he, hb, hc⟩ => ⟨he, H.set hi hb hc, hc⟩
theorem ck_btake {w : World} {g q : Nat} {v : Value} {t : Tb} (H : TwQ w g q v t) {i : Nat} (hi : i < t.n) (hl : ∀ b ∈ t.bs, b.length = 4) (p : Pf) :
    Calls Tryz.prog 74 #[.pointer (some ⟨q, i * 20, none⟩), p.v] w fun e w' => e = .returned (.bool (hasB (t.at i) p)) ∧ TwQ w' g q v (t.set i (takeB (t.at i) p)) ∧ Chg (· = q) w w' :=
  (bk_take (H.bkAt hi hl) p).mono fun e w' ⟨he, hb, hc⟩ => ⟨he, H.set hi hb hc, hc⟩
theorem ck_bget {w : World} {g q : Nat} {v : Value} {t : Tb} (H : TwQ w g q v t) {i : Nat} (hi : i < t.n) (hl : ∀ b ∈ t.bs, b.length = 4) (p : Pf) :
    Calls Tryz.prog 55 #[.pointer (some ⟨q, i * 20, none⟩), p.v] w fun e w' => e = .returned (.tuple #[.int .i64 (valP (t.at i) p), .bool (hasB (t.at i) p)]) ∧ Below w.heap.size w w' :=
  bk_get (H.bkAt hi hl) p
theorem ck_bswap {w : World} {g q : Nat} {v : Value} {t : Tb} (H : TwQ w g q v t) {i : Nat} (hi : i < t.n) (hl : ∀ b ∈ t.bs, b.length = 4) (m : Nat) (hm : m < 4) (y : Rt) (hy : (t.at i)[m]? = some (true, y)) (p : Pf) (x : Int) :
    Calls Tryz.prog 68 #[.pointer (some ⟨q, i * 20, none⟩), .int .i64 (m : Int), p.v, .int .i64 x] w fun e w' =>
      e = .returned (.tuple #[.agg #[.int .u64 (y.1.1.1 : Int), .int .u64 (y.1.1.2 : Int), .int .i64 y.1.2], .int .i64 y.2, .bool true]) ∧ TwQ w' g q v (t.set i ((t.at i).set m (true, p, x))) ∧ Chg (· = q) w w' :=
  (bk_swap (H.bkAt hi hl) m hm _ hy rfl p x).mono fun e w' ⟨he, hb, hc⟩ => ⟨he, H.set hi hb hc, hc⟩
theorem ck_ball {w : World} {g q : Nat} {v : Value} {t : Tb} (H : TwQ w g q v t) {i : Nat} (hi : i < t.n) (hl : ∀ b ∈ t.bs, b.length = 4) :
    Calls Tryz.prog 84 #[.pointer (some ⟨q, i * 20, none⟩)] w fun e w' => ∃ u, e = .returned u ∧ Owns w' w.heap.size 77 4 u (entB (t.at i)).length (rtsV (entB (t.at i))) ∧ Below w.heap.size w w' := by
  refine (bk_all (H.bkAt hi hl)).mono fun e w' ⟨u, he, ho, hb⟩ => ⟨u, he, ?_, hb⟩
  have e1 : (entB (t.at i)).length = (allP (t.at i)).length := by simp [entB]
  have e2 : rtsV (entB (t.at i)) = allV (t.at i) := by unfold rtsV entB allV; rw [List.flatMap_map]; rfl
  rw [e1, e2]; exact ho

theorem ck_other {w : World} {g q : Nat} {v : Value} {t : Tb} (H : TwQ w g q v t) (hs : t.s < 2 ^ 64) (hn : t.n ≤ 65536) (p : Pf) (hp : p.1.ok) (k : Nat) :
    Calls Tryz.prog 69 #[.pointer (some ⟨g, 0, none⟩), .agg #[.int .u64 (p.1.1 : Int), .int .u64 (p.1.2 : Int), .int .i64 p.2], .int .i64 (k : Int)] w fun e w' =>
      e = .returned (.int .i64 (t.other p k : Int)) ∧ Below w.heap.size w w' := by
  have hb := (Below.refl w.heap.size w).alloc (Nat.le_refl _) (.cells #[.int .u64 (p.1.1 : Int), .int .u64 (p.1.2 : Int), .int .i64 p.2] 38)
  have c1 := hid (ck_two (H.below hb) hs hn p hp)
  have HB := hid hb
  clear hb H hs hn hp
  unfold Tb.other
  generalize t.b1 p = x1 at *
  generalize t.b2 p = x2 at *
  obtain ⟨⟨a, b⟩, i⟩ := p
  simp only at c1 HB ⊢
  by_cases e : k = x1
  · rw [if_pos e]
    have e' : (k : Int) = x1 := by omega
    clear e
    go_enter Tryz.func69, Tryz.ntmps69
    go_wp2_with fail
    refine c1.out.mono ?_
    rintro _ w1 ⟨rfl, hb1⟩
    have HB1 := hid (held_next HB.out hb1)
    clear hb1
    go_wp2_with fail
    go_ret
    exact ⟨rfl, HB1.out⟩
  · rw [if_neg e]
    have e' : ¬ (k : Int) = x1 := by omega
    clear e
    go_enter Tryz.func69, Tryz.ntmps69
    go_wp2_with fail
    refine c1.out.mono ?_
    rintro _ w1 ⟨rfl, hb1⟩
    have HB1 := hid (held_next HB.out hb1)
    clear hb1
    go_wp2_with fail
    go_ret
    exact ⟨rfl, HB1.out⟩

end Go.Proofs.YtpjjijhojcfmnaaGreat

namespace Go.Proofs.YtpjjijhojcfmnaaGreat
set_option linter.unusedVariables false
set_option linter.unusedSimpArgs false

def srchI : List Rt → Pf → Nat
  | [], _ => 0
  | x :: l, p => if x.1.lt p then srchI l p + 1 else 0
def srchB (l : List Rt) (p : Pf) : Bool := decide (∃ r ∈ l, r.1 = p)
theorem srchI_le : ∀ (l : List Rt) (p : Pf), srchI l p ≤ l.length
  | [], _ => Nat.le_refl _
  | x :: l, p => by
    unfold srchI; have := srchI_le l p
    split <;> simp <;> omega
theorem srchI_lo : ∀ (l : List Rt) (p : Pf) (j : Nat) (x : Rt), j < srchI l p → l[j]? = some x → x.1.lt p
  | [], _, _, _, h, _ => by simp [srchI] at h
  | y :: l, p, j, x, h, hx => by
    unfold srchI at h
    split at h
    · rename_i hy
      cases j with
      | zero => simp at hx; subst hx; exact hy
      | succ j => exact srchI_lo l p j x (by omega) (by simpa using hx)
    · omega
theorem srchI_hi : ∀ (l : List Rt) (p : Pf) (x : Rt), l[srchI l p]? = some x → ¬ x.1.lt p
  | [], _, _, h => by simp at h
  | y :: l, p, x, h => by
    unfold srchI at h
    split at h
    · exact srchI_hi l p x (by simpa using h)
    · rename_i hy; simp at h; subst h; exact hy
theorem found_at {l : List Rt} {p : Pf} {i : Nat} {f : Bool} (hs : l.Pairwise (fun x y => x.1.lt y.1)) (h : Found l p i f) : i = srchI l p ∧ f = srchB l p := by
  have h1 : i = srchI l p := by
    rcases Nat.lt_trichotomy i (srchI l p) with e | e | e
    · exfalso
      have hl : i < l.length := Nat.lt_of_lt_of_le e (srchI_le l p)
      have hx := List.getElem?_eq_getElem hl
      exact h.hi _ hx (srchI_lo l p i _ e hx)
    · exact e
    · exfalso
      have hl : srchI l p < l.length := Nat.lt_of_lt_of_le e h.le
      have hx := List.getElem?_eq_getElem hl
      exact srchI_hi l p _ hx (h.lo _ _ e hx)
  refine ⟨h1, ?_⟩
  unfold srchB
  rw [Bool.eq_iff_iff, h.is, decide_eq_true_iff]
  constructor
  · rintro ⟨x, hx, e⟩; exact ⟨x, List.mem_of_getElem? hx, e⟩
  · rintro ⟨r, hr, e⟩
    obtain ⟨j, hj⟩ := List.getElem?_of_mem hr
    obtain ⟨hjl, ej⟩ := List.getElem?_eq_some_iff.1 hj
    rcases Nat.lt_trichotomy j i with c | c | c
    · exfalso; have := h.lo j r c hj; rw [e] at this; exact pf_lt_irrefl _ this
    · subst c; exact ⟨r, hj, e⟩
    · exfalso
      have hil : i < l.length := by omega
      have hx := List.getElem?_eq_getElem hil
      have := (List.pairwise_iff_getElem.1 hs) i j hil hjl c
      rw [ej, e] at this
      exact h.hi _ hx this
theorem srch_no {l : List Rt} {p : Pf} (h : srchB l p = false) (v : Int) : l.take (srchI l p) ++ (p, v) :: l.drop (srchI l p) = intoL l (p, v) :=
  ((into_at (r := (p, v)) (srchI_le l p) (srchI_lo l p) (srchI_hi l p)).1 fun x hx e => of_decide_eq_false h ⟨x, List.mem_of_getElem? hx, e⟩).symm
theorem srch_is {l : List Rt} {p : Pf} (hs : l.Pairwise (fun x y => x.1.lt y.1)) (h : srchB l p = true) : ∃ u, l[srchI l p]? = some (p, u) ∧ (∀ v, l.set (srchI l p) (p, v) = intoL l (p, v)) := by
  obtain ⟨r, hr, e⟩ := of_decide_eq_true h
  obtain ⟨j, hj⟩ := List.getElem?_of_mem hr
  obtain ⟨hjl, ej⟩ := List.getElem?_eq_some_iff.1 hj
  have hji : j = srchI l p := by
    rcases Nat.lt_trichotomy j (srchI l p) with c | c | c
    · exfalso; have := srchI_lo l p j r c hj; rw [e] at this; exact pf_lt_irrefl _ this
    · exact c
    · exfalso
      have hil : srchI l p < l.length := by omega
      have hx := List.getElem?_eq_getElem hil
      have := (List.pairwise_iff_getElem.1 hs) _ j hil hjl c
      rw [ej, e] at this
      exact srchI_hi l p _ hx this
  subst hji
  obtain ⟨r1, r2⟩ := r
  simp only at e
  subst e
  exact ⟨r2, hj, fun v => ((into_at (r := (r1, v)) (srchI_le l r1) (srchI_lo l r1) (srchI_hi l r1)).2 _ hj rfl).symm⟩
theorem srch_del : ∀ {l : List Rt} {p : Pf}, l.Pairwise (fun x y => x.1.lt y.1) → srchB l p = true → l.eraseIdx (srchI l p) = withoutL l p
  | [], p, _, h => by simp [srchB] at h
  | x :: l, p, hs, h => by
    rw [List.pairwise_cons] at hs
    unfold srchI
    by_cases e : x.1.lt p
    · rw [if_pos e]
      have hne : x.1 ≠ p := fun e2 => by rw [e2] at e; exact pf_lt_irrefl _ e
      have h2 : srchB l p = true := by
        obtain ⟨r, hr, e3⟩ := of_decide_eq_true h
        rcases List.mem_cons.1 hr with rfl | hr
        · exact absurd e3 hne
        · exact decide_eq_true ⟨r, hr, e3⟩
      rw [List.eraseIdx_cons_succ, srch_del hs.2 h2]
      unfold withoutL
      rw [List.filter_cons, if_pos (by simpa using hne)]
    · rw [if_neg e, List.eraseIdx_cons_zero]
      obtain ⟨r, hr, e3⟩ := of_decide_eq_true h
      have hx : x.1 = p := by
        rcases List.mem_cons.1 hr with rfl | hr
        · exact e3
        · have := hs.1 r hr; rw [e3] at this; exact absurd this e
      unfold withoutL
      rw [List.filter_cons, if_neg (by simpa using hx)]
      refine (List.filter_eq_self.2 fun y hy => ?_).symm
      have := hs.1 y hy
      have hne : y.1 ≠ p := fun e2 => by rw [hx, e2] at this; exact pf_lt_irrefl _ this
      simpa using hne

end Go.Proofs.YtpjjijhojcfmnaaGreat

namespace Go.Proofs.YtpjjijhojcfmnaaGreat
open Go.RowKit
set_option linter.unusedVariables false
set_option linter.unusedSimpArgs false
set_option maxRecDepth 100000

theorem search_at (w : World) (v : Value) (l : List Rt) (hR : Rd rtEn 4 w v l) (hs : l.Pairwise (fun x y => x.1.lt y.1)) (hlen : l.length ≤ 100000000) (p : Pf) :
    Calls Tryz.prog 83 #[v, .agg #[.int .u64 (p.1.1 : Int), .int .u64 (p.1.2 : Int), .int .i64 p.2, .int .i64 0], .func (.func 62) #[] #[]] w fun e w' =>
      e = .returned (.tuple #[.int .i64 (srchI l p : Int), .bool (srchB l p)]) ∧ Below w.heap.size w w' := by
  refine (search w v l hR hs hlen p 0).mono ?_
  rintro e w3 ⟨i, f, he, hf, hb⟩
  obtain ⟨e1, e2⟩ := found_at hs hf
  exact ⟨by rw [he, e1, e2], hb⟩
theorem ck_hidden {w : World} {g q : Nat} {v : Value} {t : Tb} (H : TwQ w g q v t) (hs : t.st.Pairwise (fun x y => x.1.lt y.1)) (hlen : t.st.length ≤ 100000000) (p : Pf) :
    Calls Tryz.prog 56 #[.pointer (some ⟨g, 0, none⟩), .agg #[.int .u64 (p.1.1 : Int), .int .u64 (p.1.2 : Int), .int .i64 p.2]] w fun e w' =>
      e = .returned (.tuple #[.int .i64 (srchI t.st p : Int), .bool (srchB t.st p)]) ∧ Below w.heap.size w w' := by
  have hb := (Below.refl w.heap.size w).alloc (Nat.le_refl _) (.cells #[.int .u64 (p.1.1 : Int), .int .u64 (p.1.2 : Int), .int .i64 p.2] 38)
  have H1 := H.below hb
  have c1 := hid fun (w2 : World) (h : Below (w.alloc (.cells #[.int .u64 (p.1.1 : Int), .int .u64 (p.1.2 : Int), .int .i64 p.2] 38)).heap.size (w.alloc (.cells #[.int .u64 (p.1.1 : Int), .int .u64 (p.1.2 : Int), .int .i64 p.2] 38)) w2) =>
    search_at w2 v t.st (Rd.of_owns (H1.below h).st rtEn_length) hs hlen p
  have HT := hid H1.top
  have HP := hid (Blk.new_at w #[.int .u64 (p.1.1 : Int), .int .u64 (p.1.2 : Int), .int .i64 p.2] 38 w.heap.size rfl)
  have HB := hid hb
  obtain ⟨A, cap, rfl, _, _, _⟩ := Owns.form H.st
  clear hb H1 H hs hlen
  generalize srchI t.st p = x1 at *
  generalize srchB t.st p = x2 at *
  generalize t.st.length = m at *
  obtain ⟨⟨a, b⟩, i⟩ := p
  simp only at c1 HT HP HB ⊢
  go_enter Tryz.func56, Tryz.ntmps56
  go_wp2_with fail
  refine wp_region_later (fun w' => w'.cell? ⟨g, 2, none⟩ = some (.slice A m cap) ∧ w'.cell? ⟨w.heap.size, 0, none⟩ = some (.int .u64 (a : Int)) ∧ w'.cell? ⟨w.heap.size, 1, none⟩ = some (.int .u64 (b : Int)) ∧ w'.cell? ⟨w.heap.size, 2, none⟩ = some (.int .i64 i))
    (fun z => ⟨z.cell (HT.out.cellv rfl), z.cell (HP.out.cellv rfl), z.cell (HP.out.cellv rfl), z.cell (HP.out.cellv rfl)⟩) (by kernel_rfl) (by kernel_rfl) (fun HS => ?_)
  repeat (go_big_quiet_step (with_reducible exact Later.calls _ (c1.out _ (Later.below _))))
  refine wpQuiet_nil ?_
  rintro w2 ⟨⟨_, hb2⟩, rfl⟩
  have HB2 := hid (held_next HB.out hb2)
  clear hb2 HS
  go_wp2_with fail
  go_ret2
  exact ⟨rfl, HB2.out⟩

def replB (t : Tb) (p : Pf) : Bool := hasB (t.at (t.b1 p)) p || hasB (t.at (t.b2 p)) p || stHas t p
def replT (t : Tb) (p : Pf) (x : Int) : Tb :=
  if hasB (t.at (t.b1 p)) p then t.set (t.b1 p) (putB (t.at (t.b1 p)) p x)
  else if hasB (t.at (t.b2 p)) p then t.set (t.b2 p) (putB (t.at (t.b2 p)) p x)
  else if stHas t p then { t with st := intoL t.st (p, x) }
  else t
theorem has_can {ps : List Plc} {p : Pf} (h : hasB ps p = true) : canB ps p = true := by
  rcases putB_cases ps p 0 with a | a | a
  · exact a.2.1
  · rw [a.1] at h; cases h
  · rw [a.1] at h; cases h
theorem rtsV_hop : ∀ {l : List Rt} {i : Nat} {p : Pf} {u : Int} (x : Int), l[i]? = some (p, u) → (rtsV l).set (i * 4 + 3) (.int .i64 x) = rtsV (l.set i (p, x))
  | [], _, _, _, _, h => by simp at h
  | y :: l, 0, p, u, x, h => by simp at h; subst h; simp [rtsV, rtEn]
  | y :: l, i + 1, p, u, x, h => by
    have ih := rtsV_hop x (l := l) (i := i) (by simpa using h)
    have e : (i + 1) * 4 + 3 = (rtEn y).length + (i * 4 + 3) := by rw [rtEn_length]; omega
    show (rtEn y ++ rtsV l).set ((i + 1) * 4 + 3) _ = rtEn y ++ rtsV (l.set i (p, x))
    rw [e, List.set_append_right _ _ (by omega), Nat.add_sub_cancel_left, ih]
theorem rtsV_at : ∀ {l : List Rt} {i : Nat} {p : Pf} {u : Int}, l[i]? = some (p, u) → (rtsV l)[i * 4 + 3]? = some (.int .i64 u)
  | [], _, _, _, h => by simp at h
  | y :: l, 0, p, u, h => by simp at h; subst h; simp [rtsV, rtEn]
  | y :: l, i + 1, p, u, h => by
    have ih := rtsV_at (l := l) (i := i) (by simpa using h)
    show (rtEn y ++ rtsV l)[(i + 1) * 4 + 3]? = _
    rw [List.getElem?_append_right (by rw [rtEn_length]; omega), rtEn_length, show (i + 1) * 4 + 3 - 4 = i * 4 + 3 by omega, ih]
def ReplRel (w : World) (h1 h2 : Bool) (i : Value) (wr : World) : Prop := ∃ k : Nat, k ≤ 2 ∧ i = .int .i64 k ∧ Below w.heap.size w wr ∧ (1 ≤ k → h1 = false) ∧ (2 ≤ k → h2 = false)

set_option maxHeartbeats 4000000 in
theorem ck_replace {w : World} {g q : Nat} {v : Value} {t : Tb} (H : TwQ w g q v t) (hok : t.Ok) (hst : t.st.length ≤ 100000000) (p : Pf) (hp : p.1.ok) (x : Int) :
    Calls Tryz.prog 66 #[.pointer (some ⟨g, 0, none⟩), .agg #[.int .u64 (p.1.1 : Int), .int .u64 (p.1.2 : Int), .int .i64 p.2], .int .i64 x] w fun e w' =>
      e = .returned (.bool (replB t p)) ∧ TwQ w' g q v (replT t p x) ∧ Chg (fun z => z = q ∨ v.ownBlock = some z) w w' := by
  have hb := (Below.refl w.heap.size w).alloc (Nat.le_refl _) (.cells #[.int .u64 (p.1.1 : Int), .int .u64 (p.1.2 : Int), .int .i64 p.2] 38)
  have H1 := H.below hb
  have hpb := Blk.new_at w #[.int .u64 (p.1.1 : Int), .int .u64 (p.1.2 : Int), .int .i64 p.2] 38 w.heap.size rfl
  have hqw : q < w.heap.size := H.bk.lt
  have hvw : ∀ z, v.ownBlock = some z → z < w.heap.size := fun z hz => (Owns.base_le H.st z hz).2
  have HVW := hid hvw
  generalize hw0 : w.alloc (.cells #[.int .u64 (p.1.1 : Int), .int .u64 (p.1.2 : Int), .int .i64 p.2] 38) = w0 at *
  have c1 := hid (ck_two H1 hok.s64 hok.n2 p hp)
  have l1 := b1_lt hok.n1 p
  have l2 := b2_lt hok.n1 p
  have hn2 := hok.n2
  have HLEN := hid hok.len
  have HSRT := hid hok.srt
  have HH := hid H1
  have HB := hid hb
  have HPB := hid hpb
  obtain ⟨A, cap, rfl, hmc, hcm, hA⟩ := Owns.form H.st
  unfold maxLen at hcm
  have HA := hid hA
  have HR1 := hid (show hasB (t.at (t.b1 p)) p = true → replB t p = true ∧ ∀ x, replT t p x = t.set (t.b1 p) (putB (t.at (t.b1 p)) p x) from fun h => by unfold replB replT; rw [h]; exact ⟨rfl, fun _ => rfl⟩)
  have HR2 := hid (show hasB (t.at (t.b1 p)) p = false → hasB (t.at (t.b2 p)) p = true → replB t p = true ∧ ∀ x, replT t p x = t.set (t.b2 p) (putB (t.at (t.b2 p)) p x) from fun h h2 => by unfold replB replT; rw [h, h2]; exact ⟨rfl, fun _ => rfl⟩)
  have HR3 := hid (show hasB (t.at (t.b1 p)) p = false → hasB (t.at (t.b2 p)) p = false → srchB t.st p = true → replB t p = true ∧ ∀ x, replT t p x = { t with st := intoL t.st (p, x) } from fun h h2 h3 => by unfold replB replT; rw [h, h2, show stHas t p = true from h3]; exact ⟨rfl, fun _ => rfl⟩)
  have HR4 := hid (show hasB (t.at (t.b1 p)) p = false → hasB (t.at (t.b2 p)) p = false → srchB t.st p = false → replB t p = false ∧ ∀ x, replT t p x = t from fun h h2 h3 => by unfold replB replT; rw [h, h2, show stHas t p = false from h3]; exact ⟨rfl, fun _ => rfl⟩)
  generalize t.b1 p = x1 at *
  generalize t.b2 p = x2 at *
  clear hok hb hpb H1 H hA hvw
  obtain ⟨n, hn⟩ : ∃ n, t.n = n := ⟨_, rfl⟩
  have HN := hid hn
  rw [hn] at l1 l2 hn2
  obtain ⟨m, hm⟩ : ∃ m, t.st.length = m := ⟨_, rfl⟩
  have HM := hid hm
  rw [hm] at hst hmc HH HVW ⊢
  clear hn hm
  subst hw0
  go_enter Tryz.func66, Tryz.ntmps66
  go_wp2_with fail
  refine c1.out.mono ?_
  rintro _ w1 ⟨rfl, hb1⟩
  go_wp2_with fail
  have HB1 := hid (held_next HB.out hb1)
  have hI := Blk.new_at w1 #[.int .i64 (x1 : Int), .int .i64 (x2 : Int)] 3 w1.heap.size rfl
  have hb2 := (Below.refl w1.heap.size w1).alloc (Nat.le_refl _) (.cells #[.int .i64 (x1 : Int), .int .i64 (x2 : Int)] 3)
  have hH2 := (HH.out.below hb1).below hb2
  have hP2 := (HPB.out.below' hb1).below' hb2
  have hB2 := held_next HB1.out hb2
  generalize w1.alloc (.cells #[.int .i64 (x1 : Int), .int .i64 (x2 : Int)] 3) = w2 at *
  generalize w1.heap.size = ib at *
  have HI := hid hI
  have HH2 := hid hH2
  have HP2 := hid hP2
  have HB2 := hid hB2
  clear hI hb1 hb2 hH2 hP2 hB2 HB1 HB HPB c1 HH
  go_loopw [25] (fun i wr => ReplRel w2 (hasB (t.at x1) p) (hasB (t.at x2) p) i wr) (fun i _ => 2 - (intOf i).toNat)
  case atStart => exact ⟨0, by omega, rfl, Below.refl _ _, fun h => by omega, fun h => by omega⟩
  case round =>
    obtain ⟨k, hk, rfl, hbr, hk1, hk2⟩ := hrel
    have HBr := hid (held_next HB2.out hbr)
    have HHr := hid (HH2.out.below hbr)
    have HPr := hid (HP2.out.below' hbr)
    have HIr := hid (HI.out.below' hbr)
    have HBW := hid hbr
    have HK1 := hid hk1
    have HK2 := hid hk2
    clear hbr hk1 hk2
    by_cases hk2 : k < 2
    · obtain ⟨b, hbn, hcell, hbx⟩ : ∃ b : Nat, b < n ∧ wr.cell? ⟨ib, k, none⟩ = some (.int .i64 (b : Int)) ∧ (k = 0 ∧ b = x1 ∨ k = 1 ∧ b = x2) := by
        rcases (show k = 0 ∨ k = 1 by omega) with rfl | rfl
        · exact ⟨x1, l1, HIr.out.cellv rfl, .inl ⟨rfl, rfl⟩⟩
        · exact ⟨x2, l2, HIr.out.cellv rfl, .inr ⟨rfl, rfl⟩⟩
      have cG := hid fun (w' : World) (h : Below wr.heap.size wr w') => ck_bget (HHr.out.below h) (by rw [HN.out]; exact hbn) HLEN.out p
      have HBX := hid hbx
      clear hbx
      unfold Pf.v at cG
      have cP := hid fun (w' : World) (h : Below wr.heap.size wr w') => ck_bput (HHr.out.below h) (show b < t.n by rw [HN.out]; exact hbn) HLEN.out p x
      unfold Pf.v at cP
      have hb0 : (0 : Int) ≤ (b : Int) := by omega
      have hb1 : (b : Int) < (n : Int) := by omega
      obtain ⟨hv, hh⟩ : ∃ z, hasB (t.at b) p = z := ⟨_, rfl⟩
      have HHS := hid hh
      rw [hh] at cG
      clear hh
      cases hv
      · go_wp2_with fail
        refine wp_region_later (fun w' => w'.cell? ⟨g, 1, none⟩ = some (.slice (some ⟨q, 0, none⟩) n n) ∧ w'.cell? ⟨w.heap.size, 0, none⟩ = some (.int .u64 (p.1.1 : Int)) ∧ w'.cell? ⟨w.heap.size, 1, none⟩ = some (.int .u64 (p.1.2 : Int)) ∧ w'.cell? ⟨w.heap.size, 2, none⟩ = some (.int .i64 p.2))
          (fun z => ⟨z.cell (by rw [← HN.out]; exact HHr.out.top.cellv rfl), z.cell (HPr.out.cellv rfl), z.cell (HPr.out.cellv rfl), z.cell (HPr.out.cellv rfl)⟩) (by kernel_rfl) (by kernel_rfl) (fun HS => ?_)
        repeat (go_big_quiet_step (with_reducible exact Later.calls _ (cG.out _ (Later.below _))))
        refine wpQuiet_nil ?_
        rintro w3 ⟨⟨_, hb3⟩, rfl⟩
        have HBW3 := hid (held_next HBW.out hb3)
        clear hb3 HS cP cG
        go_wp2_with fail
        go_roundw
        case rel =>
          have h1 := HK1.out
          refine ⟨k + 1, by omega, by go_num, HBW3.out, fun _ => ?_, fun _ => ?_⟩
          · rcases HBX.out with ⟨e1, e2⟩ | ⟨e1, e2⟩
            · rw [← e2]; exact HHS.out
            · exact h1 (by omega)
          · rcases HBX.out with ⟨e1, e2⟩ | ⟨e1, e2⟩
            · omega
            · rw [← e2]; exact HHS.out
        case measure => simp [intOf]; omega
      · go_wp2_with fail
        refine wp_region_later (fun w' => w'.cell? ⟨g, 1, none⟩ = some (.slice (some ⟨q, 0, none⟩) n n) ∧ w'.cell? ⟨w.heap.size, 0, none⟩ = some (.int .u64 (p.1.1 : Int)) ∧ w'.cell? ⟨w.heap.size, 1, none⟩ = some (.int .u64 (p.1.2 : Int)) ∧ w'.cell? ⟨w.heap.size, 2, none⟩ = some (.int .i64 p.2))
          (fun z => ⟨z.cell (by rw [← HN.out]; exact HHr.out.top.cellv rfl), z.cell (HPr.out.cellv rfl), z.cell (HPr.out.cellv rfl), z.cell (HPr.out.cellv rfl)⟩) (by kernel_rfl) (by kernel_rfl) (fun HS => ?_)
        repeat (go_big_quiet_step (with_reducible exact Later.calls _ (cG.out _ (Later.below _))))
        refine wpQuiet_nil ?_
        rintro w3 ⟨⟨_, hb3⟩, rfl⟩
        have HBR3 := hid hb3
        have y0 := (show w3.cell? ⟨g, 1, none⟩ = some (.slice (some ⟨q, 0, none⟩) n n) from by rw [← HN.out]; exact (HHr.out.below hb3).top.cellv rfl)
        have hP3 := HPr.out.below' hb3
        have p0 := hP3.cellv (i := 0) rfl
        have p1 := hP3.cellv (i := 1) rfl
        have p2 := hP3.cellv (i := 2) rfl
        have HB3 := hid (held_next HBr.out hb3)
        clear hb3 HS cG hP3
        go_wp2_with fail
        refine wp_region_tail 8 (by kernel_rfl) (by kernel_rfl) ?_
        simp only [List.take_succ_cons, List.take_zero, List.drop_succ_cons, List.drop_zero]
        repeat still_step
        refine wpStill_nil ?_
        go_wp2_with fail
        refine (cP.out _ (HBR3.out.drew)).mono ?_
        rintro _ w4 ⟨rfl, hT, hC⟩
        have HT := hid hT
        have HC := hid hC
        clear hT hC cP
        go_wp2_with fail
        go_ret
        have hcan := has_can HHS.out
        have hc4 : Chg (fun z => z = q ∨ Value.ownBlock (.slice A m cap) = some z) w w4 := (Chg.of_below HB3.out.drew _).trans' (HC.out.mono fun z _ e => .inl e)
        rcases HBX.out with ⟨e1, e2⟩ | ⟨e1, e2⟩
        · subst e2
          obtain ⟨r1, r2⟩ := HR1.out HHS.out
          exact ⟨by rw [r1, hcan] <;> rfl, by rw [r2]; exact HT.out, hc4⟩
        · subst e2
          obtain ⟨r1, r2⟩ := HR2.out (HK1.out (by omega)) HHS.out
          exact ⟨by rw [r1, hcan] <;> rfl, by rw [r2]; exact HT.out, hc4⟩
    · have hk2' : k = 2 := by omega
      subst hk2'
      have e1 := HK1.out (by omega)
      have e2 := HK2.out (by omega)
      have E1 := hid e1
      have E2 := hid e2
      have cH := hid (ck_hidden HHr.out HSRT.out (by rw [HM.out]; exact hst) p)
      clear e1 e2
      obtain ⟨sv, hsv⟩ : ∃ z, srchB t.st p = z := ⟨_, rfl⟩
      have HSV := hid hsv
      rw [hsv] at cH
      obtain ⟨si, hsi⟩ : ∃ z, srchI t.st p = z := ⟨_, rfl⟩
      have HSI := hid hsi
      rw [hsi] at cH
      have p0 := HPr.out.cellv (i := 0) rfl
      have p1 := HPr.out.cellv (i := 1) rfl
      have p2 := HPr.out.cellv (i := 2) rfl
      cases sv
      · clear hsv hsi
        go_wp2_with fail
        refine cH.out.mono ?_
        rintro _ w3 ⟨rfl, hb3⟩
        have HB3 := hid (held_next HBr.out hb3)
        have HH3 := hid (HHr.out.below hb3)
        clear hb3 cH
        go_wp2_with fail
        go_ret
        obtain ⟨r1, r2⟩ := HR4.out E1.out E2.out HSV.out
        exact ⟨by rw [r1] <;> rfl, by rw [r2]; exact HH3.out, Chg.of_below HB3.out _⟩
      · obtain ⟨u, hu, hset⟩ := srch_is HSRT.out hsv
        rw [hsi] at hu hset
        have him : si < m := by rw [← HM.out]; exact (List.getElem?_eq_some_iff.1 hu).1
        obtain ⟨ga, rfl, _⟩ := HA.out (by rw [HM.out]; omega)
        have hi0 : (0 : Int) ≤ (si : Int) := by omega
        have hi1 : (si : Int) < (m : Int) := by omega
        have HU := hid hu
        have HSET := hid hset
        clear hsv hsi hu hset
        go_wp2_with fail
        refine cH.out.mono ?_
        rintro _ w3 ⟨rfl, hb3⟩
        have hH3 := HHr.out.below hb3
        have HB3 := hid (held_next HBr.out hb3)
        have HH3 := hid hH3
        have y2 : w3.cell? ⟨g, 2, none⟩ = some (.slice (some ⟨ga, 0, none⟩) m cap) := hH3.top.cellv rfl
        have hst3 := hH3.st
        rw [HM.out] at hst3
        obtain ⟨_, hcs, hfs⟩ := Owns.cells hst3
        have y3 := (hcs (si * 4 + 3) (by omega)).trans (rtsV_at HU.out)
        have y4 := hfs (si * 4 + 3)
        have HS3 := hid (Owns.store hst3 (si * 4 + 3) (.int .i64 x))
        clear hb3 cH hcs hfs hst3 hH3
        go_wp2_with fail
        go_ret
        obtain ⟨r1, r2⟩ := HR3.out E1.out E2.out HSV.out
        refine ⟨by rw [r1] <;> rfl, ?_, (Chg.of_below HB3.out _).trans' ((Chg.store w3 ga (si * 4 + 3) _).mono fun z _ e => .inr (by subst e; rfl))⟩
        rw [r2]
        have hv1 := HH3.out.gv
        have hv2 := HH3.out.qv
        refine ⟨HH3.out.top.chg (Chg.store _ _ _ _) (fun e => hv1 (by subst e; rfl)), HH3.out.bk.chg (Chg.store _ _ _ _) (fun e => hv2 (by subst e; rfl)), ?_, HH3.out.gq, hv1, hv2⟩
        show Owns _ 0 _ 4 _ (intoL t.st (p, x)).length (rtsV (intoL t.st (p, x)))
        rw [← HSET.out x, List.length_set, HM.out, ← rtsV_hop x HU.out]
        exact HS3.out

end Go.Proofs.YtpjjijhojcfmnaaGreat

namespace Go.Proofs.YtpjjijhojcfmnaaGreat
open Go.RowKit
set_option linter.unusedVariables false
set_option linter.unusedSimpArgs false
set_option maxRecDepth 100000

def KeysRel (w : World) (t : Tb) (n : Nat) (v i : Value) (wr : World) : Prop :=
  ∃ k : Nat, k ≤ n ∧ i = .int .i64 k ∧ Owns wr w.heap.size 77 4 v ((t.bs.take k).flatMap entB).length (rtsV ((t.bs.take k).flatMap entB)) ∧ Below w.heap.size w wr
theorem keys_snoc {t : Tb} {k : Nat} (h : k < t.n) : (t.bs.take (k + 1)).flatMap entB = (t.bs.take k).flatMap entB ++ entB (t.at k) := by
  have h2 := Tb.get_at h
  obtain ⟨hk, e⟩ := List.getElem?_eq_some_iff.1 h2
  rw [List.take_succ_eq_append_getElem hk, List.flatMap_append, e]; simp
theorem keys_part {t : Tb} (k : Nat) (h : k < t.n) : ((t.bs.take k).flatMap entB).length + (entB (t.at k)).length ≤ (keysT t).length := by
  rw [← List.length_append, ← keys_snoc h]
  unfold keysT
  rw [List.length_append]
  have e : t.bs.flatMap entB = (t.bs.take (k + 1)).flatMap entB ++ (t.bs.drop (k + 1)).flatMap entB := by rw [← List.flatMap_append, List.take_append_drop]
  rw [e, List.length_append]; omega

set_option maxHeartbeats 4000000 in
theorem ck_keys {w : World} {g q : Nat} {v : Value} {t : Tb} (H : TwQ w g q v t) (hl : ∀ b ∈ t.bs, b.length = 4) (hn : t.n ≤ 65536) (hlen : (keysT t).length ≤ 100000000) :
    Calls Tryz.prog 60 #[.pointer (some ⟨g, 0, none⟩)] w (RetRts w (keysT t)) := by
  obtain ⟨A, cap, rfl, hmc, hcm, hA⟩ := Owns.form H.st
  unfold maxLen at hcm
  have HLEN := hid hl
  have HH := hid H
  have HK := hid hlen
  obtain ⟨n, hn'⟩ : ∃ n, t.n = n := ⟨_, rfl⟩
  have HN := hid hn'
  obtain ⟨m, hm⟩ : ∃ m, t.st.length = m := ⟨_, rfl⟩
  have HM := hid hm
  have ht := H.top
  rw [hn', hm] at ht
  rw [hm] at HH hmc
  rw [hn'] at hn
  have HT := hid ht
  have y1 := ht.cellv (i := 1) rfl
  clear H hl hlen hA hm hn' ht
  go_enter Tryz.func60, Tryz.ntmps60
  go_wp2_with fail
  go_loopw [3, 10] (fun v i wr => KeysRel w t n v i wr) (fun _ i _ => n - (intOf i).toNat)
  case atStart => exact ⟨0, Nat.zero_le _, rfl, Owns.nil _ _ _ _, Below.refl _ _⟩
  case round =>
    obtain ⟨k, hk, rfl, hO, hb⟩ := hrel
    have HB := hid hb
    have HHr := hid (HH.out.below hb)
    have y1 := (HT.out.below' hb).cellv (i := 1) rfl
    have y2 := (HT.out.below' hb).cellv (i := 2) rfl
    by_cases hkn : k < n
    · have cA := hid (ck_ball HHr.out (i := k) (by rw [HN.out]; exact hkn) HLEN.out)
      have hkp := keys_part (t := t) k (by rw [HN.out]; exact hkn)
      have HSN := hid (keys_snoc (t := t) (k := k) (by rw [HN.out]; exact hkn))
      have hO2 := hO
      obtain ⟨A2, cap2, rfl, _, _, _⟩ := Owns.form hO
      have HO := hid hO2
      have HKP := hid hkp
      generalize hL : (t.bs.take k).flatMap entB = L at *
      generalize hE : entB (t.at k) = E at *
      obtain ⟨ln, hln⟩ : ∃ z, L.length = z := ⟨_, rfl⟩
      have HLN := hid hln
      have hk0 : (0 : Int) ≤ (k : Int) := by omega
      have hk1 : (k : Int) < (n : Int) := by omega
      clear hO hO2 hb hkp hL hE
      rw [hln] at HO HKP ⊢
      clear hln
      go_wp2_with fail
      refine cA.out.mono ?_
      rintro _ w1 ⟨u, rfl, hU, hb1⟩
      have HO1 := hid (HO.out.below hb1)
      have HRu := hid (Rd.of_owns (en := rtEn) hU rtEn_length)
      obtain ⟨A3, cap3, hu, _, _, _⟩ := Owns.form hU
      subst hu
      have hsz := HB.out.size
      have hs1 := hb1.size
      have HB1 := hid (held_next HB.out hb1)
      clear hU hb1 cA
      go_wp2_with (at_builtin; refine wpList_append_rdb rfl _ _ 47 rfl 77 _ 4 32 Tryz.underlying47 rt_row rfl (by decide) w.heap.size _ ln _ rfl HO1.out _ rfl E HRu.out rtEn_length cells_rt ?_ ?_ ?_ ?_)
      all_goals first
        | (intro v' w' hO' hI hC
           have HO' := hid hO'
           have HB2 := hid (HB1.out.trans (hC.below HB1.out.size (fun z hz e => by have := (Owns.base_le HO1.out z e).1; omega)))
           clear hO' hI hC
           go_wp2_with fail
           go_roundw
           case rel => exact ⟨k + 1, by omega, by go_num, by rw [HSN.out, List.length_append, HLN.out]; simpa [rtsV] using HO'.out, HB2.out⟩
           case measure => simp [intOf]; omega)
        | (have := HKP.out; have := HK.out; unfold maxLen; omega)
        | (have := HKP.out; have := HK.out; omega)
        | (have := HB1.out.size; omega)
    · have hkn : k = n := by omega
      subst hkn
      have hall : (t.bs.take k).flatMap entB = t.bs.flatMap entB := by rw [← HN.out]; unfold Tb.n; rw [List.take_length]
      rw [hall] at hO
      have HO := hid hO
      have hS := HHr.out.st
      have HRs := hid (Rd.of_owns (en := rtEn) (l := t.st) hS rtEn_length)
      obtain ⟨A2, cap2, rfl, _, _, _⟩ := Owns.form hO
      have hkl : (t.bs.flatMap entB).length + t.st.length = (keysT t).length := by unfold keysT; rw [List.length_append]
      have HKL := hid hkl
      obtain ⟨ln, hln⟩ : ∃ z, (t.bs.flatMap entB).length = z := ⟨_, rfl⟩
      have HLN := hid hln
      rw [hln] at HO HKL ⊢
      clear hO hb hS hall hkl hln
      go_wp2_with (at_builtin; refine wpList_append_rdb rfl _ _ 47 rfl 77 _ 4 32 Tryz.underlying47 rt_row rfl (by decide) w.heap.size _ ln _ rfl HO.out _ rfl t.st HRs.out rtEn_length cells_rt ?_ ?_ ?_ ?_)
      all_goals first
        | (intro v' w' hO' hI hC
           have HO' := hid hO'
           have HB2 := hid (HB.out.trans (hC.below HB.out.size (fun z hz e => by have := (Owns.base_le HO.out z e).1; omega)))
           clear hO' hI hC
           go_wp2_with fail
           go_ret
           exact ⟨_, rfl, by unfold OwnRts keysT; rw [List.length_append, HLN.out]; simpa [rtsV] using HO'.out, HB2.out⟩)
        | (have := HKL.out; have := HK.out; unfold maxLen; omega)
        | (have := HKL.out; have := HK.out; omega)
        | exact HB.out.size

end Go.Proofs.YtpjjijhojcfmnaaGreat

namespace Go.Proofs.YtpjjijhojcfmnaaGreat
open Go.RowKit
set_option linter.unusedVariables false
set_option linter.unusedSimpArgs false
set_option maxRecDepth 100000

def emptyB : List Plc := [plcZ, plcZ, plcZ, plcZ]
def bukEn (b : List Plc) : List Value := b.flatMap plcEn
theorem bk_row : (Tryz.prog.info? 116).map (fun i => (i.zero, i.size, i.bytes)) = some (some (.agg (bukEn emptyB).toArray), 20, 160) := by kernel_rfl
/-- As made. -/
def newT (s n : Nat) : Tb := ⟨s, List.replicate n emptyB, []⟩
theorem newT_n (s n : Nat) : (newT s n).n = n := by simp [newT, Tb.n]
/-- The made row, in any world. -/
theorem made_bks (w : World) (n : Nat) : Blk (w.alloc (.cells (madeCells (bukEn emptyB).toArray (n * 20)) 116)) w.heap.size 116 (bksV (List.replicate n emptyB)) := by
  have h : ∀ n : Nat, madeCells (bukEn emptyB).toArray (n * 20) = (bksV (List.replicate n emptyB)).toArray := fun n => by
    apply Array.ext
    · rw [size_madeCells, List.size_toArray, bksV_len (fun b hb => by rw [List.eq_of_mem_replicate hb]; rfl), List.length_replicate]
    · intro i h1 h2
      have hi : i < n * 20 := by rw [size_madeCells] at h1; exact h1
      have h3 : ∀ (n i : Nat), i < n * 20 → (bksV (List.replicate n emptyB))[i]? = (bukEn emptyB)[i % 20]? := by
        intro n
        induction n with
        | zero => intro i h; omega
        | succ n ih =>
          intro i h
          show (bukEn emptyB ++ bksV (List.replicate n emptyB))[i]? = _
          by_cases hi : i < 20
          · rw [List.getElem?_append_left (by exact hi), Nat.mod_eq_of_lt hi]
          · have e20 : (bukEn emptyB).length = 20 := rfl
            rw [List.getElem?_append_right (by rw [e20]; omega), e20, ih (i - 20) (by omega)]
            congr 1; omega
      have h4 := h3 n i hi
      have h5 : i < (bksV (List.replicate n emptyB)).length := by simpa using h2
      have hm : i % 20 < (bukEn emptyB).length := Nat.mod_lt _ (by decide)
      rw [List.getElem?_eq_getElem h5, List.getElem?_eq_getElem hm] at h4
      injection h4 with h4
      simp only [madeCells, Array.getElem_map, Array.getElem_range, List.getElem_toArray, List.size_toArray]
      rw [h4]
      have e20 : (bukEn emptyB).length = 20 := rfl
      simp only [e20]
      first
        | (rw [List.getElem?_eq_getElem hm]; rfl)
        | (simp [hm])
        | skip
  rw [h]; exact Blk.new w _ _

theorem ck_new (w : World) (s : Nat) (n : Nat) (h1 : 1 ≤ n) (h2 : n ≤ 65536) :
    Calls Tryz.prog 17 #[.int .u64 (s : Int), .int .i64 (n : Int)] w fun e w' => ∃ g, e = .returned (.tuple #[.pointer (some ⟨g, 0, none⟩), .int .i64 0]) ∧ w.heap.size ≤ g ∧ Below w.heap.size w w' ∧ ∃ q, TwQ w' g q (.slice none 0 0) (newT s n) ∧ w.heap.size ≤ q := by
  have hmk := fun w => make_atk (P := Tryz.prog) 92 116 _ 20 160 Tryz.underlying92 bk_row .i64 .i64 (n : Int) n rfl (by omega) (by omega) w
  simp only [Value.cells] at hmk
  have HMB := hid (made_bks w n)
  generalize madeCells (bukEn emptyB).toArray (n * 20) = row at hmk HMB
  have c1 : ¬ ((n : Int) < 1) := by omega
  have c2 : ¬ ((n : Int) > 65536) := by omega
  have c3 : (n : Int) ≤ 65536 := by omega
  have c4 : (1 : Int) ≤ n := by omega
  go_enter Tryz.func17, Tryz.ntmps17
  go_wp2_with fail
  go_ret2
  refine ⟨w.heap.size + 1, rfl, by omega, ((Below.refl _ _).alloc (Nat.le_refl _) _).alloc (by simp) _, w.heap.size, ⟨?_, ?_, Owns.nil _ _ _ _, by omega, by simp [Value.ownBlock], by simp [Value.ownBlock]⟩, Nat.le_refl _⟩
  · rw [newT_n]; exact Blk.new_at _ _ _ _ (by simp)
  · exact HMB.out.alloc _
theorem ck_new_no (w : World) (s : Nat) (n : Int) (h : n < 1 ∨ 65536 < n) :
    Calls Tryz.prog 17 #[.int .u64 (s : Int), .int .i64 n] w fun e w' => e = .returned (.tuple #[.pointer none, .int .i64 1]) ∧ Below w.heap.size w w' := by
  by_cases h1 : n < 1
  · go_enter Tryz.func17, Tryz.ntmps17
    go_wp2_with fail
    go_ret2
    exact ⟨rfl, Below.refl _ _⟩
  · have h2 : 65536 < n := by omega
    go_enter Tryz.func17, Tryz.ntmps17
    go_wp2_with fail
    go_ret2
    exact ⟨rfl, Below.refl _ _⟩

/-- The table, somewhere in F. -/
def TwF (w : World) (g : Nat) (F : Nat → Prop) (t : Tb) : Prop := ∃ q v, TwQ w g q v t ∧ F g ∧ F q ∧ OwnIn F v
theorem TwF.mono {w : World} {g : Nat} {F G : Nat → Prop} {t : Tb} (h : TwF w g F t) (hs : ∀ z, z < w.heap.size → F z → G z) : TwF w g G t := by
  obtain ⟨q, v, h, h1, h2, h3⟩ := h
  exact ⟨q, v, h, hs _ h.top.lt h1, hs _ h.bk.lt h2, fun z hz => hs z (Owns.base_le h.st z hz).2 (h3 z hz)⟩
theorem TwF.chg {w w' : World} {g : Nat} {F S : Nat → Prop} {t : Tb} (h : TwF w g F t) (hc : Chg S w w') (hs : ∀ z, z < w.heap.size → F z → ¬ S z) : TwF w' g F t := by
  obtain ⟨q, v, h, h1, h2, h3⟩ := h
  exact ⟨q, v, h.chg hc (hs _ h.top.lt h1) (hs _ h.bk.lt h2) (fun b hb => hs b (Owns.base_le h.st b hb).2 (h3 b hb)), h1, h2, h3⟩
theorem TwF.below {w w' : World} {g : Nat} {F : Nat → Prop} {t : Tb} (h : TwF w g F t) (hc : Below w.heap.size w w') : TwF w' g F t := by
  obtain ⟨q, v, h, h1, h2, h3⟩ := h
  exact ⟨q, v, h.below hc, h1, h2, h3⟩
/-- What Put does, as long as it may grow d times. -/
def PutAt (put : Tb → Pf → Int → Tb) (d : Nat) : Prop := ∀ (w : World) (g : Nat) (F : Nat → Prop) (t : Tb) (p : Pf) (x : Int), TwF w g F t → t.Ok → p.1.ok → (keysT t).length < 50000000 → 65536 ≤ t.n * 2 ^ d →
  Calls Tryz.prog 39 #[.pointer (some ⟨g, 0, none⟩), .agg #[.int .u64 (p.1.1 : Int), .int .u64 (p.1.2 : Int), .int .i64 p.2], .int .i64 x] w fun e w' =>
    e = .returned (.tuple #[]) ∧ TwF w' g (fun z => F z ∨ w.heap.size ≤ z) (put t p x) ∧ Chg F w w'
theorem keys_all (t : Tb) : (keysT t).length = tc (fun _ => true) t := by rw [← keysT_cnt]; simp

def GrowRel (w3 : World) (g qb : Nat) (put : Tb → Pf → Int → Tb) (t0 : Tb) (l : List Rt) (i : Value) (wr : World) : Prop :=
  ∃ k : Nat, k ≤ l.length ∧ i = .int .i64 k ∧ TwF wr g (fun z => z = g ∨ z = qb ∨ w3.heap.size ≤ z) ((l.take k).foldl (fun t r => put t r.1 r.2) t0) ∧ Chg (fun z => z = g ∨ z = qb) w3 wr

set_option maxHeartbeats 4000000 in
theorem ck_grow {put : Tb → Pf → Int → Tb} {d : Nat} (hput : PutAt put d) (hpo : ∀ t p v, t.Ok → p.1.ok → PutOk t p v (put t p v)) {w : World} {g : Nat} {F : Nat → Prop} {t : Tb} (H : TwF w g F t) (hok : t.Ok) (hlen : (keysT t).length ≤ 50000000) (hd : 65536 ≤ min (2 * t.n) 65536 * 2 ^ d) :
    Calls Tryz.prog 71 #[.pointer (some ⟨g, 0, none⟩)] w fun e w' => e = .returned (.tuple #[]) ∧ TwF w' g (fun z => F z ∨ w.heap.size ≤ z) (growStep put t) ∧ Chg F w w' := by
  obtain ⟨q, v, H, hFg, hFq, hFv⟩ := H
  have hn2 := hok.n2
  have hn1 := hok.n1
  have hw : IntKind.i64.wrap (2 * (t.n : Int)) = 2 * (t.n : Int) := by rw [IntKind.wrap_i64]; omega
  obtain ⟨N, hN⟩ : ∃ N, min (2 * t.n) 65536 = N := ⟨_, rfl⟩
  have hmin : min (2 * (t.n : Int)) 65536 = (N : Int) := by omega
  have hmk := fun w => make_atk (P := Tryz.prog) 92 116 _ 20 160 Tryz.underlying92 bk_row .i64 .i64 (N : Int) N rfl (by omega) (by omega) w
  simp only [Value.cells] at hmk
  have HMB := hid (fun w => made_bks w N)
  generalize madeCells (bukEn emptyB).toArray (N * 20) = row at hmk HMB
  have cK := hid (ck_keys H hok.len hn2 (by omega))
  have cM := hid (fun w => mix t.s w)
  have HT := hid H.top
  have HGQ := hid H.gq
  have HF := hid hFg
  have hgw := H.top.lt
  have hfr := fresh_ok hok
  have hstart : fresh t = newT (mixN t.s) N := by unfold fresh newT emptyB; rw [hN]
  have HPO := hid (fun k => puts_ok hpo ((keysT t).take k) hfr (fun r hr => hok.ok r (List.mem_of_mem_take hr)) (fun p => by
    rw [fresh_tc, Nat.zero_add]
    have h1 := hok.one p
    rw [← keysT_cnt] at h1
    have h2 := (List.take_sublist k (keysT t)).countP_le (p := keyIs p)
    omega))
  have HKO := hid (fun (r : Rt) (h : r ∈ keysT t) => hok.ok r h)
  have hfn := fresh_n t
  rw [hN] at hfn hd
  have HG := hid (show growStep put t = ((keysT t).take (keysT t).length).foldl (fun t r => put t r.1 r.2) (newT (mixN t.s) N) by unfold growStep; rw [List.take_length, hstart])
  have HFT := hid (fun q => fresh_tc q t)
  rw [hstart] at hfn HPO HFT
  obtain ⟨n, hn⟩ : ∃ n, t.n = n := ⟨_, rfl⟩
  rw [hn] at HT hw hmin hn1 hn2
  clear H hok hFq hFv hN hfr hstart
  generalize growStep put t = RES at *
  generalize keysT t = L at *
  generalize t.s = s at *
  obtain ⟨t0, ht0⟩ : ∃ t0, newT (mixN s) N = t0 := ⟨_, rfl⟩
  have H0 := hid ht0
  rw [ht0] at hfn HPO HG HFT
  clear ht0
  go_enter Tryz.func71, Tryz.ntmps71
  go_wp2_with fail
  refine cK.out.mono ?_
  rintro _ w1 ⟨u, rfl, hU, hb1⟩
  obtain ⟨A, cap, hu, hlc, hcm, hA⟩ := Owns.form hU
  subst hu
  unfold maxLen at hcm
  have hT1 := HT.out.below' hb1
  have HT1 := hid hT1
  have y0 := hT1.cellv (i := 0) rfl
  have y1 := hT1.cellv (i := 1) rfl
  have y2 := hT1.cellv (i := 2) rfl
  have y3 := hT1.frozen 0
  have y4 := hT1.frozen 1
  have y5 := hT1.frozen 2
  have hs1 := hb1.size
  have hA2 := ((hT1.set 0 (.int .u64 (mixN s : Int))).set 2 (.slice none 0 0)).alloc (.cells row 116)
  have y6 := hA2.frozen 1
  have y7 := hA2.cellv (i := 1) rfl
  have hsz2 : ((w1.setCell ⟨g, 0, none⟩ (.int .u64 (mixN s : Int))).setCell ⟨g, 2, none⟩ (.slice none 0 0)).heap.size = w1.heap.size := by simp
  have hBQ := HMB.out ((w1.setCell ⟨g, 0, none⟩ (.int .u64 (mixN s : Int))).setCell ⟨g, 2, none⟩ (.slice none 0 0))
  rw [hsz2] at hBQ
  have k1 := (Chg.store w1 g 0 (.int .u64 (mixN s : Int))).trans' (Chg.store _ g 2 (.slice none 0 0))
  have k2 := k1.alloc (.cells row 116)
  have hCw := k2.trans' (Chg.store _ g 1 (.slice (some ⟨w1.heap.size, 0, none⟩) N N))
  clear k1 k2
  have hA3 := hA2.set 1 (.slice (some ⟨w1.heap.size, 0, none⟩) N N)
  have hBQ3 := hBQ.chg (Chg.store _ g 1 (.slice (some ⟨w1.heap.size, 0, none⟩) N N)) (by omega)
  have HCW := hid hCw
  have HA3 := hid hA3
  have HBQ3 := hid hBQ3
  have HU := hid hU
  have HB1 := hid hb1
  clear hU hb1 cK hT1 hA2 hBQ hCw hA3 hBQ3
  go_wp2_with fail
  refine (cM.out _).mono ?_
  rintro _ w2 ⟨rfl, rfl⟩
  go_wp2_with fail
  generalize hw3 : (((w1.setCell ⟨g, 0, none⟩ (.int .u64 (mixN s : Int))).setCell ⟨g, 2, none⟩ (.slice none 0 0)).alloc (.cells row 116)).setCell ⟨g, 1, none⟩ (.slice (some ⟨w1.heap.size, 0, none⟩) N N) = w3 at *
  obtain ⟨qb, hqb⟩ : ∃ qb, w1.heap.size = qb := ⟨_, rfl⟩
  rw [hqb] at HBQ3 HA3 ⊢
  have hT3 : TwQ w3 g qb (.slice none 0 0) t0 := by
    rw [← H0.out]
    refine ⟨by rw [newT_n]; exact HA3.out, HBQ3.out, Owns.nil _ _ _ _, by omega, by simp [Value.ownBlock], by simp [Value.ownBlock]⟩
  have HF3 := hid (show TwF w3 g (fun z => z = g ∨ z = qb ∨ w3.heap.size ≤ z) t0 from ⟨qb, _, hT3, .inl rfl, .inr (.inl rfl), fun z hz => by simp [Value.ownBlock] at hz⟩)
  have HU3 := hid (Owns.chg HU.out HCW.out (fun z hz e => by have := (Owns.base_le HU.out z hz).1; omega))
  have hq3 : qb < w3.heap.size := hT3.bk.lt
  have HRD := hid (Rd.of_owns (en := rtEn) HU3.out rtEn_length)
  have HUB := hid (fun z hz => Owns.base_le HU.out z hz)
  clear y0 y1 y2 y3 y4 y5 y6 y7 HBQ3 HA3 hT3 HU HMB hmk hsz2 hw3
  obtain ⟨m, hm⟩ : ∃ m, L.length = m := ⟨_, rfl⟩
  have HM := hid hm
  rw [hm] at hlc hlen ⊢
  clear hm
  go_loopw [31] (fun i wr => GrowRel w3 g qb put t0 L i wr) (fun i _ => m - (intOf i).toNat)
  case atStart => exact ⟨0, Nat.zero_le _, rfl, HF3.out, Chg.refl _ _⟩
  case round =>
    obtain ⟨k, hk, rfl, hF, hC⟩ := hrel
    rw [HM.out] at hk
    have HFr := hid hF
    have HCr := hid hC
    clear hF hC
    by_cases hkm : k < m
    · obtain ⟨x, hx⟩ : ∃ x, L[k]? = some x := ⟨_, List.getElem?_eq_getElem (by rw [HM.out]; exact hkm)⟩
      have hob : ∀ z, Value.ownBlock (.slice A m cap) = some z → ¬ (z = g ∨ z = qb) := fun z hz e => by have := HUB.out z (by rw [HM.out]; exact hz); omega
      obtain ⟨ba, oa, ca, hv, _, _, la, sa⟩ := (HRD.out.chg rtEn_length HCr.out (fun z hz => hob z (by rw [HM.out] at hz; exact hz))).get rtEn_length (by decide) hx
      rw [HM.out] at hv
      injection hv with hA' hxx hc
      subst hA' hc
      have z0 : wr.cell? ⟨ba, oa + k * 4, none⟩ = some (.int .u64 (x.1.1.1 : Int)) := sa 0 _ rfl
      have z1 : wr.cell? ⟨ba, oa + k * 4 + 1, none⟩ = some (.int .u64 (x.1.1.2 : Int)) := sa 1 _ rfl
      have z2 : wr.cell? ⟨ba, oa + k * 4 + 2, none⟩ = some (.int .i64 x.1.2) := sa 2 _ rfl
      have z3 : wr.cell? ⟨ba, oa + k * 4 + 3, none⟩ = some (.int .i64 x.2) := sa 3 _ rfl
      have HX := hid hx
      have hk0 : (0 : Int) ≤ (k : Int) := by omega
      have hk1 : (k : Int) < (m : Int) := by omega
      clear sa hx hxx hob hA
      go_wp2_with fail
      obtain ⟨q1, q2, q3⟩ := HPO.out k
      have hbb := (Below.refl wr.heap.size wr).alloc (Nat.le_refl _) (.cells #[.int .u64 (x.1.1.1 : Int), .int .u64 (x.1.1.2 : Int), .int .i64 x.1.2, .int .i64 x.2] 77)
      have hsr := HCr.out.size
      have hkl : (L.take k).length = k := by rw [List.length_take, HM.out]; omega
      refine (hput _ g _ _ x.1 x.2 (HFr.out.below hbb) q1 (HKO.out x (List.mem_of_getElem? HX.out)) ?_ ?_).mono ?_
      · rw [keys_all, q3, HFT.out]
        have : (L.take k).countP (fun _ => true) ≤ k := Nat.le_trans List.countP_le_length (Nat.le_of_eq hkl)
        omega
      · rw [hfn] at q2
        exact Nat.le_trans hd (Nat.mul_le_mul_right _ q2)
      rintro _ w5 ⟨rfl, hF5, hC5⟩
      have hsW := hbb.size
      have HF5 := hid (hF5.mono (G := fun z => z = g ∨ z = qb ∨ w3.heap.size ≤ z) (fun z _ h => by rcases h with h | h; exact h; exact .inr (.inr (by omega))))
      have HC5 := hid ((HCr.out.alloc (.cells #[.int .u64 (x.1.1.1 : Int), .int .u64 (x.1.1.2 : Int), .int .i64 x.1.2, .int .i64 x.2] 77)).trans hC5 (fun z hz h => by
        rcases h with h | h | h
        · exact .inl h
        · exact .inr h
        · omega))
      have HSN := hid (show (L.take (k + 1)).foldl (fun t r => put t r.1 r.2) t0 = put ((L.take k).foldl (fun t r => put t r.1 r.2) t0) x.1 x.2 by
        obtain ⟨hk', e⟩ := List.getElem?_eq_some_iff.1 HX.out
        rw [List.take_succ_eq_append_getElem hk', List.foldl_append, e]; rfl)
      clear hF5 hC5 q1 q2 q3 hbb
      go_wp2_with fail
      go_roundw
      case rel =>
        exact ⟨k + 1, by rw [HM.out]; omega, by go_num, by rw [HSN.out]; exact HF5.out, HC5.out⟩
      case measure => simp [intOf]; omega
    · have hkm : k = m := by omega
      subst hkm
      go_wp2_with fail
      go_returns
      have hqw : w.heap.size ≤ qb := by omega
      have h1 := HB1.out.size
      have h3 := HCW.out.size
      refine ⟨rfl, ?_, ?_⟩
      · rw [HG.out, HM.out]
        refine HFr.out.mono fun z _ h => ?_
        rcases h with h | h | h
        · exact .inl (by rw [h]; exact HF.out)
        · exact .inr (by omega)
        · exact .inr (by omega)
      · refine ((Chg.of_below HB1.out F).trans' (HCW.out.mono fun z _ e => ?_)).trans HCr.out fun z hz h => ?_
        · rw [e]; exact HF.out
        · rcases h with h | h
          · rw [h]; exact HF.out
          · omega

end Go.Proofs.YtpjjijhojcfmnaaGreat
