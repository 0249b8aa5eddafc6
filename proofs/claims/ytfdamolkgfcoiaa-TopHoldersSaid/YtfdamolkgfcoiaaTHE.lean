/- Layer 16: counts.rows and Table.Exported in the framework's words. -/
import Derived.Test.YtfdamolkgfcoiaaTHD
import Derived.Test.YtfdamolkgfcoiaaTHChk
import Derived.Test.YtfdamolkgfcoiaaTX
import Derived.Test.YtfdamolkgfcoiaaExtV
import Derived.Test.YtfdamolkgfcoiaaTE
set_option autoImplicit false
set_option linter.unusedVariables false
set_option linter.unusedSimpArgs false
namespace Tree.TH
open Tree Go Go.RowKit Go.Proofs
theorem rep_krow {T : Tab} {m : Mem} {k : K3} {v : Value} (h : Rep T m (.agg (krow k)) v) : v = .agg #[.int .i64 k.1, .int .i64 k.2.1, .int .i64 k.2.2] := by
  cases h with
  | agg _ vs hl hr =>
    have hs : vs.size = 3 := hl.symm
    have g : ∀ i z, (krow k)[i]? = some (.int .i64 z) → vs.getD i undef = .int .i64 z := fun i z hi => by
      have := hr i _ hi; generalize vs.getD i undef = u at this; cases this; rfl
    have g0 := g 0 _ rfl
    have g1 := g 1 _ rfl
    have g2 := g 2 _ rfl
    congr 1
    apply Array.ext
    · simpa using hs
    · intro i h1 h2
      have e : vs.getD i undef = vs[i] := by simp [Array.getD, h1]
      rw [← e]
      rcases i with _ | _ | _ | i
      · exact g0
      · exact g1
      · exact g2
      · simp at h2; omega
theorem rep_int {T : Tab} {m : Mem} {n : Int} {v : Value} (h : Rep T m (.int .i64 n) v) : v = .int .i64 n := by cases h; rfl
theorem ent3_ok {T : Tab} {m : Mem} {e : En3} {en : MapEntry} (h : EntOk T m (ent3 e) en) : en.key = .agg #[.int .i64 e.1.1, .int .i64 e.1.2.1, .int .i64 e.1.2.2] ∧ en.val = .int .i64 e.2.1 ∧ (en.born : Int) = e.2.2 := by
  obtain ⟨kk, vv, h1, h2, h3, _⟩ := h
  unfold ent3 at h1
  injection h1 with h1
  simp only [List.cons.injEq, LV.int.injEq, and_true, true_and] at h1
  obtain ⟨rfl, rfl, h4⟩ := h1
  exact ⟨rep_krow h2, rep_int h3, h4.symm⟩
theorem ents3_ok {T : Tab} {m : Mem} {es : List En3} {ents : Array MapEntry} (hl : es.length = ents.size) (h : ∀ (j : Nat) e, (es.map ent3)[j]? = some e → ∃ en, ents[j]? = some en ∧ EntOk T m e en) :
    Shape3 ents ∧ ents.toList.map kvE = es.map kn ∧ ents.toList.map (fun e => (e.born : Int)) = es.map (·.2.2) := by
  have key : ∀ (j : Nat) en, ents[j]? = some en → ∃ e, es[j]? = some e ∧ en.key = .agg #[.int .i64 e.1.1, .int .i64 e.1.2.1, .int .i64 e.1.2.2] ∧ en.val = .int .i64 e.2.1 ∧ (en.born : Int) = e.2.2 := by
    intro j en hj
    have hjl : j < es.length := by rw [hl]; exact (Array.getElem?_eq_some_iff.1 hj).1
    obtain ⟨en', h1, h2⟩ := h j (ent3 es[j]) (by rw [List.getElem?_map, List.getElem?_eq_getElem hjl]; rfl)
    rw [hj] at h1; injection h1 with h1; subst h1
    exact ⟨es[j], List.getElem?_eq_getElem hjl, ent3_ok h2⟩
  have hkv : ∀ {e : En3} {en : MapEntry}, en.key = .agg #[.int .i64 e.1.1, .int .i64 e.1.2.1, .int .i64 e.1.2.2] → en.val = .int .i64 e.2.1 → kvE en = kn e := fun {e en} h1 h2 => by
    rw [kv_of (a := e.1.1) (b := e.1.2.1) (c := e.1.2.2) (n := e.2.1) (by rw [enc3, h1, h2]; rfl)]; rfl
  have len2 : ents.toList.length = es.length := by rw [hl]; simp
  refine ⟨fun en he => ?_, ?_, ?_⟩
  · obtain ⟨j, hj⟩ := List.getElem?_of_mem he
    rw [Array.getElem?_toList] at hj
    obtain ⟨e, _, h1, h2, _⟩ := key j en hj
    exact ⟨_, _, _, _, h1, h2⟩
  · apply List.ext_getElem?; intro j
    rw [List.getElem?_map, List.getElem?_map, Array.getElem?_toList]
    cases hj : ents[j]? with
    | none =>
      have : es[j]? = none := by rw [List.getElem?_eq_none_iff, hl]; exact Array.getElem?_eq_none_iff.1 hj
      rw [this]; rfl
    | some en =>
      obtain ⟨e, h0, h1, h2, _⟩ := key j en hj
      rw [h0]; exact congrArg some (hkv h1 h2)
  · apply List.ext_getElem?; intro j
    rw [List.getElem?_map, List.getElem?_map, Array.getElem?_toList]
    cases hj : ents[j]? with
    | none =>
      have : es[j]? = none := by rw [List.getElem?_eq_none_iff, hl]; exact Array.getElem?_eq_none_iff.1 hj
      rw [this]; rfl
    | some en =>
      obtain ⟨e, h0, _, _, h3⟩ := key j en hj
      rw [h0]; exact congrArg some h3
theorem rises_all {c : Int} : ∀ (es : List En3) (t : Int), risesB c t es = true → (∀ e ∈ es, t ≤ e.2.2 ∧ e.2.2 < c) ∧ (es.map (·.2.2)).Nodup
  | [], _, _ => ⟨fun e h => (nomatch h), .nil⟩
  | x :: r, t, h => by
    simp only [risesB, Bool.and_eq_true, decide_eq_true_eq] at h
    obtain ⟨h1, h2⟩ := rises_all r _ h.2
    refine ⟨fun e he => ?_, ?_⟩
    · rcases List.mem_cons.1 he with rfl | he
      · exact h.1
      · have := h1 e he; omega
    · simp only [List.map_cons, List.nodup_cons]
      refine ⟨fun hm => ?_, h2⟩
      obtain ⟨e, he, h3⟩ := List.mem_map.1 hm
      have := h1 e he; omega
theorem newKey_iff {k : K3} : ∀ (es : List En3), newKey k es = true ↔ k ∉ es.map (·.1)
  | [] => by simp [newKey]
  | e :: r => by
    have ih := newKey_iff (k := k) r
    obtain ⟨a, b, c⟩ := k
    obtain ⟨⟨a', b', c'⟩, q⟩ := e
    simp only [newKey, Bool.and_eq_true, Bool.not_eq_true', ih, List.map_cons, List.mem_cons, not_or, Prod.mk.injEq]
    constructor
    · rintro ⟨h1, h2⟩
      exact ⟨fun h => by obtain ⟨rfl, rfl, rfl⟩ := h; simp at h1, h2⟩
    · rintro ⟨h1, h2⟩
      refine ⟨?_, h2⟩
      cases hq : (a' == a && b' == b && c' == c) with
      | false => rfl
      | true =>
        simp only [Bool.and_eq_true, beq_iff_eq] at hq
        exact absurd ⟨hq.1.1.symm, hq.1.2.symm, hq.2.symm⟩ h1
theorem once_all : ∀ (es : List En3), onceB es = true ↔ (es.map (·.1)).Nodup
  | [] => by simp [onceB]
  | e :: r => by simp only [onceB, Bool.and_eq_true, newKey_iff, once_all r, List.map_cons, List.nodup_cons]
theorem nodes_all : ∀ (es : List En3), nodesB es = true ↔ ∀ e ∈ es, 0 ≤ e.1.2.2 ∧ e.1.2.2 < 4294967296
  | [] => by simp [nodesB]
  | e :: r => by simp only [nodesB, Bool.and_eq_true, decide_eq_true_eq, nodes_all r, List.mem_cons, forall_eq_or_imp]
/-- A map's block out of its object. -/
theorem map3_at {T : Tab} {m : Mem} {ob : Obs} (hO : ObjsOk T ob m) {id : Nat} {cs : List LV} {c : Int} {es : List En3} (hi : ob[id]? = some cs) (hp : parseM3 cs = some (c, es)) (hok : okM3 c es = true) :
    ∃ (ents : Array MapEntry) (clock : Nat), m.w.heap[m.ob id]? = some (.map ents clock) ∧ Shape3 ents ∧ (∀ x ∈ ents.toList, x.born < clock) ∧ (ents.toList.map (·.born)).Nodup ∧ ents.size = es.length ∧ ents.size ≤ 1099511627776 ∧ ents.toList.map kvE = es.map kn ∧
      ((ents.toList.map kvE).map (·.1)).Nodup ∧ (∀ q ∈ ents.toList.map kvE, 0 ≤ q.1.2.2 ∧ q.1.2.2 < 4294967296) := by
  obtain rfl := parseM3_inv hp
  simp only [okM3, Bool.and_eq_true, decide_eq_true_eq] at hok
  obtain ⟨⟨⟨h1, h2⟩, h3⟩, h4⟩ := hok
  have hB := (hO.obj id _ hi).map rfl
  rcases hB with ⟨ents, c', es', g1, g2, g3, g4, g5⟩ | ⟨r, s, z, snap, g1, g2, g3, _⟩
  · simp only [m3, List.cons.injEq, LV.tup.injEq, LV.int.injEq, and_true, true_and] at g3
    obtain ⟨rfl, rfl⟩ := g3
    rw [List.length_map] at g4
    obtain ⟨k1, k2, k3⟩ := ents3_ok g4 g5
    obtain ⟨r1, r2⟩ := rises_all es 0 h1
    have hb : ∀ x ∈ ents.toList, ((x.born : Nat) : Int) ∈ es.map (·.2.2) := fun x hx => by rw [← k3]; exact List.mem_map.2 ⟨x, hx, rfl⟩
    refine ⟨ents, c', g1, k1, fun x hx => ?_, ?_, g4.symm, by omega, k2, ?_, ?_⟩
    · obtain ⟨e, he, h5⟩ := List.mem_map.1 (hb x hx)
      have := (r1 e he).2
      omega
    · rw [← k3] at r2
      have : (ents.toList.map fun e => ((e.born : Nat) : Int)) = (ents.toList.map (·.born)).map (fun n : Nat => (n : Int)) := by rw [List.map_map]; rfl
      rw [this] at r2
      exact List.Pairwise.of_map (fun n : Nat => (n : Int)) (fun a b h e => h (by rw [e])) r2
    · rw [k2, List.map_map]
      exact (once_all es).1 h2
    · rw [k2]
      intro q hq
      obtain ⟨e, he, rfl⟩ := List.mem_map.1 hq
      exact (nodes_all es).1 h3 e he
  · simp [m3, loopObj] at g3
def toVal4 : LV → Value
  | .int k n => .int k n
  | _ => undef
theorem only16_418 : nuTableH.all (fun e => e.2 != 418 || e.1 == 20) = true := by decide +kernel
theorem only16_401 : nuTableH.all (fun e => e.2 != 401 || e.1 == 10) = true := by decide +kernel
theorem one_valR {vals : Array Value} (h : 1 = vals.size) : ∃ a, vals = #[a] :=
  ⟨vals[0], by
    apply Array.ext
    · simp [← h]
    · intro i h1 h2
      match i with
      | 0 => rfl
      | i + 1 => omega⟩
theorem rows_ext (args : List LV) (r : LV) (ob : Obs) (pb : Nat) (hF : rowsF args ob = some r) : CallOk tabH envH 418 args ob pb r ob := by
  intro f m vals hf hG hA hO
  obtain rfl : f = 20 := fn_only (T := tabH) only16_418 hf
  unfold rowsF at hF
  split at hF
  · rename_i id
    split at hF
    · rename_i cs hcs
      split at hF
      · rename_i c es hp
        split at hF
        · rename_i hok
          injection hF with hF; subst hF
          obtain ⟨hlen, hA⟩ := hA
          obtain ⟨hr, _⟩ := hA 0 _ rfl
          obtain ⟨v0, rfl⟩ := one_valR hlen
          have hr' : Rep tabH m (.mref id) v0 := by simpa using hr
          obtain ⟨ents, clock, a1, a2, a3, a4, a5, a6, a7, a8, a9⟩ := map3_at hO hcs hp hok
          have hv0 : v0 = .map (some (m.ob id)) := by cases hr'; rfl
          subst hv0
          refine Calls.mono (rows_all (m.ob id) ents clock m.w a1 a2 a3 a4 a6 a8 a9) (fun e w' he => ?_)
          obtain ⟨v, rfl, hown, hb⟩ := he
          rw [a7, a5] at hown
          have hll : ((isortK (es.map kn)).map row4).length = es.length := by rw [List.length_map, (isortK_perm _).length_eq, List.length_map]
          rw [← hll] at hown
          refine fresh_row hb hown (by decide) (fun x hx => by obtain ⟨q, _, rfl⟩ := List.mem_map.1 hx; rfl) (fun j lv hj => ?_) hO
          have hfl : (isortK (es.map kn)).flatMap cells4 = (((isortK (es.map kn)).map row4).flatten).map toVal4 := by
            rw [List.flatMap_def, List.map_flatten, List.map_map]; rfl
          refine ⟨toVal4 lv, by rw [hfl, List.getElem?_map, hj]; rfl, ?_⟩
          have hm := List.mem_of_getElem? hj
          obtain ⟨x, hx, hlx⟩ := List.mem_flatten.1 hm
          obtain ⟨q, _, rfl⟩ := List.mem_map.1 hx
          simp only [row4, List.mem_cons, List.not_mem_nil, or_false] at hlx
          rcases hlx with rfl | rfl | rfl | rfl <;> exact ⟨rfl, .int _ _⟩
        · cases hF
      · cases hF
    · cases hF
  · cases hF
theorem hasV_any (x y : Int) : ∀ es : List En3, hasV x y es = (es.map kn).any (isV x y)
  | [] => rfl
  | e :: r => by simp only [hasV, List.map_cons, List.any_cons, hasV_any x y r]; rfl
theorem two_valR {vals : Array Value} (h : 2 = vals.size) : ∃ a b, vals = #[a, b] :=
  ⟨vals[0], vals[1], by
    apply Array.ext
    · simp [← h]
    · intro i h1 h2
      match i with
      | 0 => rfl
      | 1 => rfl
      | i + 2 => omega⟩
theorem rep_name {T : Tab} {m : Mem} {x y : Int} {v : Value} (h : Rep T m (.agg [.int .i64 x, .int .i64 y]) v) : v = .agg #[.int .i64 x, .int .i64 y] := by
  cases h with
  | agg _ vs hl hr =>
    have hs : vs.size = 2 := hl.symm
    obtain ⟨a, b, rfl⟩ := two_valR hs.symm
    have g0 := hr 0 _ rfl
    have g1 := hr 1 _ rfl
    have h0 : a = .int .i64 x := rep_int (by simpa using g0)
    have h1 : b = .int .i64 y := rep_int (by simpa using g1)
    rw [h0, h1]
theorem exported_nil (w : World) (x y : Int) : Calls Try.prog 10 #[.pointer none, .agg #[.int .i64 x, .int .i64 y]] w fun e w' => e = .returned (.bool false) ∧ Below w.heap.size w w' := by
  go_enter Try.func10, Try.ntmps10
  go_wp2
  go_ret
  exact ⟨rfl, (Below.refl _ _).alloc (Nat.le_refl _) _⟩
theorem below_post16 {T : Tab} {pb : Nat} {m : Mem} {ob : Obs} {w' : World} (hb : Below m.w.heap.size m.w w') (hO : ObjsOk T ob m) : ∃ m' : Mem, m'.w = w' ∧ Post pb m m' ∧ ObjsOk T ob m' := by
  let mk : Mem := { w := w', k := fun b o => if b < m.w.heap.size then m.k b o else .other, ob := m.ob, n := m.n }
  have hk : ∀ b o, b < m.w.heap.size → mk.k b o = m.k b o := fun b o hlt => if_pos hlt
  have hext : m.ext mk := by
    refine ⟨⟨fun b o l u hc hi => ?_, Nat.le_refl _, fun _ _ => rfl⟩, fun b hlt => hb.block b hlt, hk⟩
    have hlt := cell_lt hc
    refine ⟨by rw [hk b o hlt]; exact hi, ?_⟩
    rw [← hc]; exact World.cell?_of_block (hb.block b hlt)
  have hpost : Post pb m mk := ⟨hb.os, hb.tape, hb.output, hb.size, fun b hlt => .inl (hb.block b hlt), fun b o hlt _ => if_pos hlt, Nat.le_refl _, fun _ _ => rfl, fun _ h1 h2 => absurd h1 (Nat.not_le.2 h2)⟩
  exact ⟨mk, rfl, hpost, hO.ext hext rfl⟩
theorem exported_ext (args : List LV) (r : LV) (ob : Obs) (pb : Nat) (hF : exportedF args ob = some r) : CallOk tabH envH 401 args ob pb r ob := by
  intro f m vals hf hG hA hO
  obtain rfl : f = 10 := fn_only (T := tabH) only16_401 hf
  unfold exportedF at hF
  split at hF
  · rename_i x y
    injection hF with hF; subst hF
    obtain ⟨hlen, hA⟩ := hA
    obtain ⟨v0, v1, rfl⟩ := two_valR hlen
    have r0 : Rep tabH m .nilptr v0 := by simpa using (hA 0 _ rfl).1
    have r1 : Rep tabH m (.agg [.int .i64 x, .int .i64 y]) v1 := by simpa using (hA 1 _ rfl).1
    obtain rfl := rep_name r1
    cases r0
    refine Calls.mono (exported_nil m.w x y) (fun e w' he => ?_)
    obtain ⟨rfl, hb⟩ := he
    obtain ⟨m', h1, h2, h3⟩ := below_post16 (T := tabH) (pb := pb) hb hO
    exact ⟨m', h1, h2, h3, .bool _, trivial⟩
  · rename_i t x y
    split at hF
    · rename_i c0 c1 id c3 hob
      split at hF
      · rename_i cs hcs
        split at hF
        · rename_i c es hp
          split at hF
          · rename_i hok
            injection hF with hF; subst hF
            obtain ⟨hlen, hA⟩ := hA
            obtain ⟨v0, v1, rfl⟩ := two_valR hlen
            have r0 : Rep tabH m (.optr t 0) v0 := by simpa using (hA 0 _ rfl).1
            have r1 : Rep tabH m (.agg [.int .i64 x, .int .i64 y]) v1 := by simpa using (hA 1 _ rfl).1
            obtain rfl := rep_name r1
            obtain ⟨ents, clock, a1, a2, a3, a4, a5, a6, a7, a8, a9⟩ := map3_at hO hcs hp hok
            have hv0 : v0 = .pointer (some ⟨m.ob t, 0, none⟩) := by cases r0; rfl
            subst hv0
            have hmc : isMapC [c0, c1, LV.mref id, c3] = false ∨ isMapC [c0, c1, LV.mref id, c3] = true := by cases isMapC [c0, c1, LV.mref id, c3] <;> simp
            have hcell : m.w.cell? ⟨m.ob t, 2, none⟩ = some (.map (some (m.ob id))) := by
              rcases hmc with hmc | hmc
              · obtain ⟨vs, ty, g1, g2, _, g3⟩ := (hO.obj t _ hob).cells hmc
                obtain ⟨_, g4⟩ := g3 2 (.mref id) rfl
                have hv : vs.getD 2 undef = .map (some (m.ob id)) := by generalize vs.getD 2 undef = u at g4; cases g4; rfl
                have hs : 2 < vs.size := by rw [g2]; exact Nat.lt_of_sub_pos (by show 0 < 4 - 2; decide)
                simp only [World.cell?, g1, Option.isSome_none, Bool.false_eq_true, if_false]
                rw [← hv]; simp [Array.getD, hs]
              · have := ((hO.obj t _ hob).map hmc)
                exfalso
                rcases this with ⟨_, _, es', _, _, h3, h4, h5⟩ | ⟨_, _, _, snap, _, _, h3, _⟩
                · injection h3 with h6 h7
                  subst h7
                  obtain ⟨en, _, k, v, h8, _⟩ := h5 1 (.mref id) rfl
                  cases h8
                · simp [loopObj] at h3
            refine Calls.mono (exported_all (m.ob t) (m.ob id) ents clock m.w x y hcell a1 a2 a3 a4) (fun e w' he => ?_)
            obtain ⟨rfl, hb⟩ := he
            obtain ⟨m', h1, h2, h3⟩ := below_post16 (T := tabH) (pb := pb) hb hO
            refine ⟨m', h1, h2, h3, ?_, trivial⟩
            rw [a7, ← hasV_any]
            exact .bool _
          · cases hF
        · cases hF
      · cases hF
    · cases hF
  · cases hF
theorem noH_395 : nuTableH.all (fun e => e.2 != 395) = true := by decide +kernel
theorem env15rH_ok : EnvOk tabH env15r where
  tab := tabH_tab
  mixed := tabH_mixed
  eq := tabH_eq
  code := code_of (fun e he => List.all_eq_true.1 tabH_code15 e he)
  ext := fun g F hg => (env15r_ext g F hg).elim
theorem env15H_ok : EnvOk tabH env15 := frzOEnv_ok env15rH_ok
theorem envH_ok : EnvOk tabH envH where
  tab := tabH_tab
  mixed := tabH_mixed
  eq := tabH_eq
  code := code_of (fun e he => List.all_eq_true.1 tabH_code e he)
  ext := by
    intro g F hg args r ob pb hF
    rcases envH_ext g F hg with h | ⟨rfl, rfl⟩ | ⟨rfl, rfl⟩ | ⟨rfl, rfl⟩
    · exact env15H_ok.ext g F h args r ob pb hF
    · exact rows_ext args r ob pb hF
    · exact exported_ext args r ob pb hF
    · exact callOk_none noH_395 args r ob pb
end Tree.TH
