/- Package refs: counts.rows gives the counts, sorted. -/
import Derived.Test.YtfdamolkgfcoiaaTHB
import Derived.Test.YtfdamolkgfcoiaaTHLay
import Derived.Test.YtfdamolkgfcoiaaTB
set_option autoImplicit false
set_option linter.unusedVariables false
set_option linter.unusedSimpArgs false
namespace Tree.TH
open Tree Go Go.RowKit Go.Proofs Go.Shelf Go.Lib Go.Sort
set_option maxRecDepth 100000
theorem flatK_toList {α : Type} [Inhabited α] (enc : α → List Value) (k : Nat) (hk0 : 0 < k) (hk : ∀ x, (enc x).length = k) (d : Array α) : (flatK enc k d).toList = d.toList.flatMap enc := by
  have hall : ∀ x ∈ d.toList.map enc, x.length = k := fun x hx => by obtain ⟨y, _, rfl⟩ := List.mem_map.1 hx; exact hk y
  have hfl : (d.toList.map enc).flatten.length = d.size * k := by
    rw [flat_len _ hall]; simp
  rw [List.flatMap_def]
  apply List.ext_getElem?; intro t
  by_cases ht : t < d.size * k
  · have hm := Nat.mod_lt t hk0
    have hd : t / k < d.size := (Nat.div_lt_iff_lt_mul hk0).2 ht
    have h1 := flat_get (sz := k) (d.toList.map enc) hall (t / k) (t % k) hm
    rw [← flat_split hk0] at h1
    have h2 := get_flatK enc k d t ht
    rw [getElem!_pos _ t (by simpa using ht), getElem!_pos d _ hd, getElem!_pos (enc d[t / k]) _ (by rw [hk]; exact hm)] at h2
    rw [h1, List.getElem?_map, Array.getElem?_toList, Array.getElem?_toList, Array.getElem?_eq_getElem hd, Option.map_some, Option.bind_some, List.getElem?_eq_getElem (by rw [hk]; exact hm), Array.getElem?_eq_getElem (by simpa using ht), h2]
  · rw [List.getElem?_eq_none (by simpa using Nat.le_of_not_lt ht), List.getElem?_eq_none (by rw [hfl]; omega)]
theorem heap_sortedF {w : World} {g n : Nat} {os : Array Obj} {cur : Array Value} {e : TypeId} {fr : Nat × Nat} (F : Array Value) (hb : w.heap[g]? = some (.cells cur e fr)) :
    (grow (putRow id (Sort.ahead w n) g 0 F) os).heap[g]? = some (.cells (putCells id 0 F cur) e fr) := by
  have hg : g < w.heap.size := (Array.getElem?_eq_some_iff.1 hb).1
  rw [heap_grow_old _ _ (by simpa using hg)]
  simp [putRow, mapBlock, Sort.ahead, Array.getElem?_modify, hb, onCells]
theorem grownBy_sortedF {w : World} {g n : Nat} {os : Array Obj} (F : Array Value) : w.grownBy (grow (putRow id (Sort.ahead w n) g 0 F) os) (some g) := by
  refine ⟨rfl, rfl, rfl, by simp, fun k hk hne => ?_⟩
  rw [heap_grow_old _ _ (by simpa using hk)]
  have : g ≠ k := fun e => hne (by rw [e])
  simp [putRow, mapBlock, Sort.ahead, Array.getElem?_modify, this]
theorem take_putCellsF (cur F : Array Value) (h : F.size ≤ cur.size) : (putCells id 0 F cur).toList.take F.size = F.toList := by
  apply List.ext_getElem?
  intro j
  by_cases hj : j < F.size
  · rw [List.getElem?_take_of_lt hj, Array.getElem?_toList, Array.getElem?_toList]
    simp [putCells, hj, show j < cur.size by omega]
  · rw [List.getElem?_take_eq_none (by omega), List.getElem?_eq_none (by simpa using Nat.le_of_not_lt hj)]
/-- A count's cells. -/
def cells4 (q : K3 × Int) : List Value := [.int .i64 q.1.1, .int .i64 q.1.2.1, .int .i64 q.1.2.2, .int .i64 q.2]
/-- The count of a key. -/
def tmOf : List (K3 × Int) → K3 → Int
  | [], _ => 0
  | q :: r, k => if q.1 = k then q.2 else tmOf r k
theorem tmOf_mem {K : List (K3 × Int)} (hn : (K.map (·.1)).Nodup) : ∀ q ∈ K, tmOf K q.1 = q.2 := by
  induction K with
  | nil => intro q hq; cases hq
  | cons x r ih =>
    simp only [List.map_cons, List.nodup_cons] at hn
    intro q hq
    rcases List.mem_cons.1 hq with rfl | hq
    · simp [tmOf]
    · have : x.1 ≠ q.1 := fun e => hn.1 (List.mem_map.2 ⟨q, hq, e.symm⟩)
      simp only [tmOf, if_neg this]; exact ih hn.2 q hq
def kvE (e : MapEntry) : K3 × Int := match enc3 e with
  | [.int _ a, .int _ b, .int _ c, .int _ n] => ((a, b, c), n)
  | _ => ((0, 0, 0), 0)
theorem enc3_kv {es : Array MapEntry} (hk : Shape3 es) {e : MapEntry} (he : e ∈ es.toList) : enc3 e = cells4 (kvE e) := by
  obtain ⟨a, b, c, n, h1, h2⟩ := hk e he
  have h3 : enc3 e = [.int .i64 a, .int .i64 b, .int .i64 c, .int .i64 n] := by rw [enc3, h1, h2]; rfl
  unfold kvE
  rw [h3]; rfl
def toKA (k : K3) : KA := if h : 0 ≤ k.2.2 ∧ k.2.2 < 4294967296 then ⟨k, h⟩ else default
theorem toKA_val {k : K3} (h : 0 ≤ k.2.2 ∧ k.2.2 < 4294967296) : (toKA k).1 = k := by unfold toKA; rw [dif_pos h]
theorem sort_rows {es : Array MapEntry} (hk : Shape3 es) (hsz : es.size ≤ 1099511627776) (hn : ((es.toList.map kvE).map (·.1)).Nodup) (hr : ∀ q ∈ es.toList.map kvE, 0 ≤ q.1.2.2 ∧ q.1.2.2 < 4294967296)
    {base : Nat} (l : List MapEntry) (v : Value) (wr : World) (hp : l.Perm es.toList) (hrow : wr.ownsRow base 60 4 v l.length (l.flatMap enc3)) {w : World} (hnx : Below base w wr) (hbase : base ≤ wr.heap.size) :
    Calls Try.prog 23 #[v, .func (.func 24) #[] #[]] wr fun e w' => e = .returned (.tuple #[]) ∧ Below base w w' ∧ w'.ownsRow base 60 4 v es.size ((isortK (es.toList.map kvE)).flatMap cells4) := by
  have hlen : l.length = es.size := by rw [hp.length_eq]; simp
  have hKp : (l.map kvE).Perm (es.toList.map kvE) := hp.map kvE
  rcases hrow.2 with ⟨rfl, h0⟩ | ⟨g, cap, cur, rfl, hbg, hb, h1, h2, h3, h4⟩
  · have he0 : es.toList = [] := by
      have : es.toList.length = 0 := by rw [← hp.length_eq]; exact h0
      exact List.eq_nil_of_length_eq_zero this
    have hs0 : es.size = 0 := by rw [← hlen]; exact h0
    refine (AnyF.slices_SortFunc_none { Try.sortC with } none 0 (.func (.func 24) #[] #[]) wr).mono ?_
    rintro e w' ⟨rfl, rfl⟩
    refine ⟨rfl, hnx, ?_⟩
    rw [he0, hs0]
    exact World.ownsRow_nil _ _ _ _
  · obtain ⟨tm, htm⟩ : ∃ tm, tm = tmOf (es.toList.map kvE) := ⟨_, rfl⟩
    have hmemK : ∀ e ∈ l, kvE e ∈ es.toList.map kvE := fun e he => List.mem_map.2 ⟨e, hp.mem_iff.1 he, rfl⟩
    obtain ⟨d, hd⟩ : ∃ d : Array KA, d = (l.map fun e => toKA (kvE e).1).toArray := ⟨_, rfl⟩
    have hds : d.size = l.length := by rw [hd]; simp
    have hk4 : ∀ x : KA, (encK tm x).length = 4 := fun _ => rfl
    have hdq : d.toList.map (fun x => (x.1, tm x.1)) = l.map kvE := by
      rw [hd]
      simp only [List.map_map]
      refine List.map_congr_left fun e he => ?_
      have h5 := hmemK e he
      have h6 := tmOf_mem hn _ h5
      simp only [Function.comp, toKA_val (hr _ h5), htm, h6]
    have hfl : d.toList.flatMap (encK tm) = l.flatMap enc3 := by
      have e1 : d.toList.flatMap (encK tm) = (d.toList.map (fun x => (x.1, tm x.1))).flatMap cells4 := by
        rw [List.flatMap_map]; rfl
      rw [e1, hdq, List.flatMap_map]
      rw [List.flatMap_def, List.flatMap_def]
      exact congrArg List.flatten (List.map_congr_left fun e he => (enc3_kv hk (hp.mem_iff.1 he)).symm)
    have hF := flatK_toList (encK tm) 4 (by decide) hk4 d
    rw [hfl] at hF
    have hFs : (flatK (encK tm) 4 d).size = l.length * 4 := by rw [size_flatK, hds]
    have hH : HoldsK (encK tm) 4 wr g 0 d := by
      intro j hj
      rw [hFs] at hj
      refine ⟨?_, by simp [World.frozen?, hb]⟩
      have h5 : (cur.toList.take (l.length * 4))[j]? = (flatK (encK tm) 4 d).toList[j]? := by rw [h4, hF]
      rw [List.getElem?_take_of_lt hj, Array.getElem?_toList, Array.getElem?_toList] at h5
      simp only [World.cell?, hb, Nat.zero_add, Option.isSome_none, Bool.false_eq_true, if_false]
      rw [h5, getElem!_pos _ j (by rw [hFs]; exact hj), Array.getElem?_eq_getElem]; rfl
    have hgl : g < wr.heap.size := (Array.getElem?_eq_some_iff.1 hb).1
    have eg : ∀ args w, (callFunc 24 args).run Try.prog w = .ok (.enter 24 args) w := enters_of Try.func24 (by kernel_rfl) rfl
    have hc := AnyQ.slices_SortFunc_total Try.sortC 4 Try.isAgg60 Try.sizeOf60 (encK tm) hk4 (fun x v hv => by simp [encK] at hv; rcases hv with rfl | rfl | rfl | rfl <;> rfl) (fun x y : KA => cfK x.1 y.1) swoK 24 #[] g 0 cap d wr eg (cmpLays58 tm g 0 d.size wr) hH hgl (by rw [hds, hlen]; omega) totK
    rw [hds] at hc
    refine hc.mono ?_
    rintro e w' ⟨rfl, nn, os, rfl⟩
    have hB := hnx.grown (grownBy_sortedF (w := wr) (g := g) (n := nn) (os := os) (flatK (encK tm) 4 (d.toList.mergeSort fun x y => !(ltOf fun x y : KA => cfK x.1 y.1) y x).toArray)) (by have := hnx.size; omega) (fun j hj => by cases hj; exact hbg)
    refine ⟨rfl, hB, ?_⟩
    obtain ⟨S, hS⟩ : ∃ S, S = d.toList.mergeSort fun x y => !(ltOf fun x y : KA => cfK x.1 y.1) y x := ⟨_, rfl⟩
    rw [← hS]
    have hSp : S.Perm d.toList := by rw [hS]; exact List.mergeSort_perm _ _
    have hSl : S.length = l.length := by rw [hSp.length_eq]; simpa using hds
    have hSF := flatK_toList (encK tm) 4 (by decide) hk4 S.toArray
    have hSq : S.map (fun x => (x.1, tm x.1)) = isortK (es.toList.map kvE) := by
      have p1 : (S.map fun x => (x.1, tm x.1)).Perm (es.toList.map kvE) := by
        refine (hSp.map _).trans ?_
        rw [hdq]; exact hKp
      refine sortK_unique (p1.trans (isortK_perm _).symm) (((p1.map (·.1)).nodup_iff).2 hn) ?_ (isortK_sorted _)
      have ps : S.Pairwise fun a b => (!(ltOf fun x y : KA => cfK x.1 y.1) b a) = true := by
        rw [hS]
        refine List.pairwise_mergeSort (fun a b c h1 h2 => ?_) (fun a b => ?_) _
        · simp only [ltOf_cf, Bool.not_eq_true', ltK_false] at *; omega
        · simp only [ltOf_cf, Bool.or_eq_true, Bool.not_eq_true', ltK_false]; omega
      refine List.Pairwise.map _ (fun a b h => ?_) ps
      rw [ltOf_cf] at h
      simpa [leQ] using h
    have hSc : (flatK (encK tm) 4 S.toArray).toList = (isortK (es.toList.map kvE)).flatMap cells4 := by
      rw [hSF, ← hSq, List.flatMap_map]; rfl
    have hFS : (flatK (encK tm) 4 S.toArray).size = l.length * 4 := by rw [size_flatK]; simp [hSl]
    refine ⟨?_, .inr ⟨g, cap, _, by rw [hlen], hbg, heap_sortedF _ hb, by rw [← hlen]; exact h1, h2, by simp [putCells, h3], ?_⟩⟩
    · rw [← hSc, Array.length_toList, hFS, hlen]
    · rw [← hSc, ← hlen, ← hFS]
      exact take_putCellsF cur _ (by rw [hFS, h3]; exact Nat.mul_le_mul_right 4 h1)
/-- counts.rows gives the counts, sorted. -/
theorem rows_all (b : Nat) (es : Array MapEntry) (clock : Nat) (w : World) (hb : w.heap[b]? = some (.map es clock)) (hk : Shape3 es) (hold : ∀ x ∈ es.toList, x.born < clock) (hnd : (es.toList.map (·.born)).Nodup) (hsz : es.size ≤ 1099511627776)
    (hn : ((es.toList.map kvE).map (·.1)).Nodup) (hr : ∀ q ∈ es.toList.map kvE, 0 ≤ q.1.2.2 ∧ q.1.2.2 < 4294967296) :
    Calls Try.prog 20 #[.map (some b)] w fun e w' => ∃ v, e = .returned v ∧ w'.ownsRow w.heap.size 60 4 v es.size ((isortK (es.toList.map kvE)).flatMap cells4) ∧ Below w.heap.size w w' := by
  refine rows_loop b es clock w hb hk hold hnd hsz _ (fun l v wr hp hrow hnx => ?_)
  exact sort_rows hk hsz hn hr l v wr hp hrow hnx hnx.size
end Tree.TH
