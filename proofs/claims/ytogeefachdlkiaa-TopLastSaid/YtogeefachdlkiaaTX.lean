/- bytes.Clone as a function that stands by its contract. -/
import Derived.Test.YtogeefachdlkiaaTF
import Derived.Laws.AppendOwn
import Derived.Shelf.SlicesE.Clone
import Derived.Test.YtogeefachdlkiaaExtV
import Derived.Shelf.Bytes.SlClone
set_option autoImplicit false
set_option linter.unusedVariables false
set_option linter.unusedSimpArgs false
namespace Tree
open Go Go.RowKit
section
variable {T : Tab} {pb : Nat} {m m' : Mem}

theorem ObjsOk.ext {ob : Obs} (h : ObjsOk T ob m) (he : m.ext m') (hn : m'.n = m.n) : ObjsOk T ob m' := by
  have hob : ∀ (id : Nat) (cs : List LV), ob[id]? = some cs → m'.ob id = m.ob id := fun id cs hi => he.le.ob id (by rw [h.n]; exact (List.getElem?_eq_some_iff.1 hi).1)
  refine ⟨hn.trans h.n, fun id cs hi => ?_, fun id i l z xs sp cs hi hc => ?_⟩
  · rw [hob id cs hi]; exact (h.obj id cs hi).ext he
  · obtain ⟨v, h1, h2⟩ := h.own id i l z xs sp cs hi hc
    exact ⟨v, by rw [hob id cs hi]; exact he.cell h1, h2.ext he⟩

/-- Behind a call that made a row of its own: what the kit's contracts tell, in the framework's words. -/
theorem fresh_row {ob : Obs} {w' : World} {e : TypeId} {z : Nat} {v : Value} {xs : List (List LV)} {cells : List Value} (hb : Below m.w.heap.size m.w w') (hown : w'.ownsRow m.w.heap.size e z v xs.length cells) (hz : 0 < z) (hx : ∀ x ∈ xs, x.length = z)
    (hcells : ∀ (j : Nat) (lv : LV), xs.flatten[j]? = some lv → ∃ u, cells[j]? = some u ∧ u.oneCell' = true ∧ Rep T m lv u) (hO : ObjsOk T ob m) :
    ∃ m' : Mem, m'.w = w' ∧ Post pb m m' ∧ ObjsOk T ob m' ∧ Rep T m' (.sl true 0 z xs []) v ∧ Tail m' z v (.res none) := by
  obtain ⟨hlen, hrow⟩ := hown
  let mk : (Nat → Nat → Kd) → Mem := fun c => { w := w', k := fun b o => if b < m.w.heap.size then m.k b o else c b o, ob := m.ob, n := m.n }
  have hext : ∀ c, m.ext (mk c) := by
    intro c
    have hk : ∀ b o, b < m.w.heap.size → (mk c).k b o = m.k b o := fun b o hlt => if_pos hlt
    refine ⟨⟨fun b o l u hc hi => ?_, Nat.le_refl _, fun _ _ => rfl⟩, fun b hlt => hb.block b hlt, hk⟩
    have hlt := cell_lt hc
    refine ⟨by rw [hk b o hlt]; exact hi, ?_⟩
    rw [← hc]; exact World.cell?_of_block (hb.block b hlt)
  have hpost : ∀ c, Post pb m (mk c) := fun c => ⟨hb.os, hb.tape, hb.output, hb.size, fun b hlt => .inl (hb.block b hlt), fun b o hlt _ => if_pos hlt, Nat.le_refl _, fun _ _ => rfl, fun _ h1 h2 => absurd h1 (Nat.not_le.2 h2)⟩
  rcases hrow with ⟨rfl, hn⟩ | ⟨g, cap, cur, rfl, hg, hh, hcap, hmax, hsz, htake⟩
  · have : xs = [] := List.eq_nil_of_length_eq_zero hn
    subst this
    exact ⟨mk (fun _ _ => .other), rfl, hpost _, hO.ext (hext _) rfl, .nil _ _ _, fun b o ht => ht.elim⟩
  · let c : Nat → Nat → Kd := fun b o => if b = g then (if o < xs.length * z then .imm 0 else .res none) else .other
    have hkg : ∀ o, (mk c).k g o = if o < xs.length * z then .imm 0 else .res none := by
      intro o
      show (if g < m.w.heap.size then _ else c g o) = _
      rw [if_neg (by omega)]; simp only [c, if_true]
    have hle := (hext c).le
    have hcur : ∀ (j : Nat) (u : Value), cells[j]? = some u → cur[j]? = some u := by
      intro j u hj
      have hjl : j < xs.length * z := by rw [← hlen]; exact (List.getElem?_eq_some_iff.1 hj).1
      rw [← htake, List.getElem?_take, if_pos hjl, Array.getElem?_toList] at hj
      exact hj
    have key : ∀ (k j : Nat), ∃ u, ∀ (x : List LV) (lv : LV), xs[k]? = some x → x[j]? = some lv → (mk c).k g (0 + k * z + j) = .imm 0 ∧ (mk c).w.cell? ⟨g, 0 + k * z + j, none⟩ = some u ∧ u.oneCell' = true ∧ Rep T (mk c) lv u := by
      intro k j
      by_cases hex : ∃ x lv, xs[k]? = some x ∧ x[j]? = some lv
      · obtain ⟨x, lv, h1, h2⟩ := hex
        have hxl := hx x (List.mem_of_getElem? h1)
        have hjz : j < z := by rw [← hxl]; exact (List.getElem?_eq_some_iff.1 h2).1
        have hfl := flat_get xs hx k j hjz
        rw [h1, Option.bind_some, h2] at hfl
        obtain ⟨u, g1, g2, g3⟩ := hcells _ lv hfl
        refine ⟨u, fun x' lv' h1' h2' => ?_⟩
        rw [h1] at h1'; injection h1' with h1'; subst h1'
        rw [h2] at h2'; injection h2' with h2'; subst h2'
        have hfll := (List.getElem?_eq_some_iff.1 hfl).1
        rw [flat_len xs hx] at hfll
        refine ⟨by rw [hkg, Nat.zero_add, if_pos hfll], ?_, g2, g3.mono hle⟩
        show w'.cell? _ = _
        simp only [World.cell?, hh, Nat.zero_add]
        simpa using hcur _ u g1
      · exact ⟨undef, fun x lv h1 h2 => absurd ⟨x, lv, h1, h2⟩ hex⟩
    refine ⟨mk c, rfl, hpost _, hO.ext (hext _) rfl, ?_, ?_⟩
    · refine Rep.sl true 0 z xs [] g 0 cap (fun k j => Classical.choose (key k j)) (by simpa using hcap) (by simpa using hx) (fun k x j lv hk hj => ?_) (fun k x j lv hk hj => ?_) hmax
      · have := Classical.choose_spec (key k j) x lv (by simpa using hk) hj
        exact ⟨this.1, this.2.1, this.2.2.1⟩
      · exact (Classical.choose_spec (key k j) x lv (by simpa using hk) hj).2.2.2
    · intro b o ht
      simp only [tail] at ht
      obtain ⟨rfl, h1, h2⟩ := ht
      refine ⟨by rw [hkg, if_neg (by omega)], cur, e, hh, by omega⟩
end
end Tree

set_option autoImplicit false
set_option linter.unusedVariables false
set_option linter.unusedSimpArgs false
namespace Tree
open Go Go.RowKit Go.Shelf Go.Proofs
def cloneF0 (size bytes : Nat) : List LV → Option LV
  | [.sl _ _ z xs _] => if z = size ∧ xs.length ≤ maxLen ∧ xs.length * bytes ≤ 140737488355328 then some (.sl true 0 size xs []) else none
  | _ => none
def cloneF (size bytes : Nat) (args : List LV) (_ : Obs) : Option LV := cloneF0 size bytes args
open Go.Shelf Go.RowKit Go.Lib Go.Proofs in
set_option maxHeartbeats 2000000 in
set_option maxRecDepth 100000 in
/-- slices.Clone of a slice of no room, wherever it points. -/
theorem clone_emp {P : Program} {ρ : Ren} (L : SlLaysE0.n41 P ρ) (i0 : TypeInfo) (z : Value) (size bytes : Nat) (hi : P.info? (ρ.t 23) = some i0) (hz0 : i0.zero = some z) (hz1 : i0.size = size) (hz2 : i0.bytes = bytes) (hzs : z.cells.size = size) (hsz : 0 < size)
    (z23 : ∀ w, (Go.sizeOf (ρ.t 23)).run P w = .ok size w) (a : Addr) (c : Nat) (w : World) :
    Calls P (ρ.f 41) #[.slice (some a) 0 c] w fun e w' => ∃ v', e = .returned v' ∧ w'.ownsRow w.heap.size (ρ.t 23) size v' 0 [] ∧ Below w.heap.size w w' := by
  have mixed := L.mixed; have t4 := L.t4; have a4 := L.a4; have z4 := L.z4; have v4 := L.v4; have t22 := L.t22; have a22 := L.a22; have z22 := L.z22; have v22 := L.v22
  have q22 : ∀ (w : World) (a : Option Addr) (n c n' c' : Nat), (binOp .eql (ρ.t 22) (.slice a n c) (.slice none n' c')).run P w = .ok (.bool a.isNone) w := fun w a n c n' c' => Lib.run_eql_slice_nil w _ _ a n c n' c' L.t22
  have u22 : ∀ w, Sem.run P (underlying (ρ.t 22)) w = .ok (TypeDesc.slice (ρ.t 23)) w := run_underlying t22
  obtain ⟨_, _, FG⟩ := L.f41
  go_enter FG, SlBodyN.n41_ntmps ρ
  go_wp2_with (at_builtin; refine wpList_append_own _ rfl _ _ (ρ.t 22) rfl w.heap.size (ρ.t 23) i0 z size bytes t22 hi hz0 hz1 hz2 hzs hsz _ _ _ rfl (World.ownsRow_made w #[] 0 (Nat.le_refl _) (Nat.zero_le _) (by simp)) a 0 c [] rfl ?qc1 ?qc2 ?qc3 ?qc4 ?qc5 ?qc6 ?_)
  case qc1 => simp
  case qc2 => intro j u hj; simp at hj
  case qc3 => intro u hu; cases hu
  case qc4 => exact Nat.zero_le _
  case qc5 => simp
  case qc6 => simp
  intro v' w1 hown hgrow hnil
  go_wp2
  go_ret
  exact ⟨v', rfl, by simpa using hown, ((Below.refl _ w).alloc (Nat.le_refl _) _).grown hgrow (by simp) (by intro k hk; simp [Value.ownBlock] at hk; omega)⟩
/-- slices.Clone. -/
theorem clone_ext {T : Tab} {E : Env} {ρ : Ren} (L : SlLaysE0.n41 T.P ρ) {g : Nat} (hg : ∀ f, T.fn f = some g → f = ρ.f 41) {i0 : TypeInfo} {z : Value} {size bytes : Nat} (hi : T.P.info? (ρ.t 23) = some i0) (hz0 : i0.zero = some z) (hz1 : i0.size = size) (hz2 : i0.bytes = bytes) (hzs : z.cells.size = size) (hsz : 0 < size)
    (args : List LV) (r : LV) (ob : Obs) (pb : Nat) (hF : cloneF size bytes args ob = some r) : CallOk T E g args ob pb r ob := by
  intro f m vals hf hG hA hO
  obtain rfl := hg f hf
  change cloneF0 size bytes args = some r at hF
  unfold cloneF0 at hF
  split at hF
  · rename_i own lab z' xs sp
    split at hF
    · rename_i hc
      obtain ⟨rfl, hc1, hc2⟩ := hc
      injection hF with hF; subst hF
      obtain ⟨hlen, hA⟩ := hA
      obtain ⟨hr, _⟩ := hA 0 _ rfl
      obtain ⟨v0, rfl⟩ : ∃ v0, vals = #[v0] := by
        have : vals.size = 1 := by simpa using hlen.symm
        exact ⟨vals[0], by apply Array.ext; simp [this]; intro i h1 h2; have : i = 0 := by omega
                           subst this; rfl⟩
      have hr' : Rep T m (.sl own lab z' xs sp) v0 := by simpa using hr
      have z23 : ∀ w, (Go.sizeOf (ρ.t 23)).run T.P w = .ok z' w := fun w => by simp [Go.sizeOf, typeInfo, hi, hz1]
      cases hr' with
      | nil =>
        refine Calls.mono (AnyE.slices_Clone_nil L 0 0 m.w) (fun e w' he => ?_)
        obtain ⟨rfl, rfl⟩ := he
        exact ⟨m, rfl, Post.refl _ _, hO, .nil _ _ _, fun b o ht => ht.elim⟩
      | emp _ _ _ a0 =>
        refine Calls.mono (clone_emp L i0 z z' bytes hi hz0 hz1 hz2 hzs hsz z23 a0 0 m.w) (fun e w' he => ?_)
        obtain ⟨v', rfl, h1, h3⟩ := he
        exact fresh_row h3 h1 hsz (by intro x hx; cases hx) (fun j lv hj => by simp at hj) hO
      | sl _ _ _ _ _ b off cap val hcap hzz hm hrr =>
        have hall : ∀ x ∈ xs, x.length = z' := fun x hx => hzz x (List.mem_append_left _ hx)
        have hget : ∀ k, k < xs.length * z' → ∃ x lv, (xs ++ sp)[k / z']? = some x ∧ x[k % z']? = some lv ∧ xs.flatten[k]? = some lv := by
          intro k hk
          have hkm : k % z' < z' := Nat.mod_lt _ hsz
          have hkd : k / z' < xs.length := (Nat.div_lt_iff_lt_mul hsz).2 hk
          have hxl := hall xs[k / z'] (List.getElem_mem hkd)
          refine ⟨xs[k / z'], xs[k / z'][k % z']'(by omega), ?_, List.getElem?_eq_getElem _, ?_⟩
          · rw [List.getElem?_append_left hkd]; exact List.getElem?_eq_getElem hkd
          · have := flat_get xs hall (k / z') (k % z') hkm
            rw [← flat_split hsz] at this
            rw [this, List.getElem?_eq_getElem hkd, Option.bind_some, List.getElem?_eq_getElem (by omega)]
        have hnews : ∀ (j : Nat) (u : Value), ((List.range (xs.length * z')).map fun k => val (k / z') (k % z'))[j]? = some u → j < xs.length * z' ∧ u = val (j / z') (j % z') := by
          intro j u hj
          rw [List.getElem?_map] at hj
          obtain ⟨k, h1, h2⟩ := Option.map_eq_some_iff.1 hj
          obtain ⟨h3, h4⟩ := List.getElem?_eq_some_iff.1 h1
          simp at h3 h4
          exact ⟨h3, by rw [← h2, ← h4]⟩
        refine Calls.mono (AnyE.slices_Clone L i0 z z' bytes hi hz0 hz1 hz2 hzs hsz z23 b off xs.length cap ((List.range (xs.length * z')).map fun k => val (k / z') (k % z')) m.w (by simp) hc1 hc2 ?_ ?_) (fun e w' he => ?_)
        · intro j u hj
          obtain ⟨h1, rfl⟩ := hnews j u hj
          obtain ⟨x, lv, g1, g2, g3⟩ := hget j h1
          have := (hm _ _ _ _ g1 g2).2.1
          rw [Nat.add_assoc, ← flat_split hsz] at this
          exact this
        · intro u hu
          obtain ⟨k, hk, rfl⟩ := List.mem_map.1 hu
          obtain ⟨x, lv, g1, g2, g3⟩ := hget k (List.mem_range.1 hk)
          exact (hm _ _ _ _ g1 g2).2.2
        · obtain ⟨v', rfl, h1, h2, h3⟩ := he
          exact fresh_row h3 h1 hsz hall (fun j lv hj => by
            have hlt := (List.getElem?_eq_some_iff.1 hj).1
            rw [flat_len xs hall] at hlt
            obtain ⟨x, lv', g1, g2, g3⟩ := hget j hlt
            rw [hj] at g3; injection g3 with g3; subst g3
            exact ⟨val (j / z') (j % z'), by rw [List.getElem?_map, List.getElem?_range hlt]; rfl, (hm _ _ _ _ g1 g2).2.2, hrr _ _ _ _ g1 g2⟩) hO
    · cases hF
  · cases hF
end Tree

set_option autoImplicit false
set_option linter.unusedVariables false
set_option linter.unusedSimpArgs false
namespace Tree
open Go Go.RowKit Go.Proofs Go.Shelf
def byteRow : List LV → Option Int
  | [.int .u8 n] => some n
  | _ => none
def byteRows : List (List LV) → Option (List Int)
  | [] => some []
  | x :: r => (byteRow x).bind fun s => (byteRows r).map (s :: ·)
theorem byteRow_some {x : List LV} {s : Int} (h : byteRow x = some s) : x = [.int .u8 s] := by
  unfold byteRow at h
  split at h
  · injection h with h; subst h; rfl
  · cases h
theorem byteRows_get : ∀ {xs : List (List LV)} {l : List Int}, byteRows xs = some l → l.length = xs.length ∧ ∀ (j : Nat) s, l[j]? = some s → xs[j]? = some [.int .u8 s]
  | [], l, h => by
    simp only [byteRows, Option.some.injEq] at h; subst h
    exact ⟨rfl, fun j s hj => by simp at hj⟩
  | x :: r, l, h => by
    simp only [byteRows] at h
    obtain ⟨s, h1, h2⟩ := Option.bind_eq_some_iff.1 h
    obtain ⟨m, h3, rfl⟩ := Option.map_eq_some_iff.1 h2
    obtain ⟨a1, a2⟩ := byteRows_get h3
    refine ⟨by simp [a1], fun j s' hj => ?_⟩
    cases j with
    | zero => simp at hj; subst hj; rw [byteRow_some h1]; rfl
    | succ j => simpa using a2 j s' (by simpa using hj)
theorem byteRows_map : ∀ l : List Int, byteRows (l.map fun s => [.int .u8 s]) = some l
  | [] => rfl
  | s :: r => by simp [byteRows, byteRow, byteRows_map r]
theorem byteRows_eq {xs : List (List LV)} {l : List Int} (h : byteRows xs = some l) : xs = l.map fun s => [.int .u8 s] := by
  obtain ⟨h1, h2⟩ := byteRows_get h
  apply List.ext_getElem?
  intro j
  rw [List.getElem?_map]
  cases hq : l[j]? with
  | none => rw [Option.map_none, List.getElem?_eq_none_iff]; rw [List.getElem?_eq_none_iff] at hq; omega
  | some s => exact h2 j s hq
def bcloneF (args : List LV) (_ : Obs) : Option LV := match args with
  | [.sl _ _ 1 xs _] => (byteRows xs).bind fun l => if l.length ≤ 140737488355328 then some (.sl true 0 1 xs []) else none
  | _ => none
theorem one_val {vals : Array Value} (h : 1 = vals.size) : ∃ a, vals = #[a] :=
  ⟨vals[0], by
    apply Array.ext
    · simp [← h]
    · intro i h1 h2
      match i with
      | 0 => rfl
      | i + 1 => omega⟩
section
variable {T : Tab} {E : Env} {ρ : Ren}
theorem bclone_ext (L : SlLaysK.n4 T.P ρ) {g : Nat} (hg : ∀ f, T.fn f = some g → f = ρ.f 4) (args : List LV) (r : LV) (ob : Obs) (pb : Nat) (hF : bcloneF args ob = some r) : CallOk T E g args ob pb r ob := by
  intro f m vals hf hG hA hO
  obtain rfl := hg f hf
  unfold bcloneF at hF
  split at hF
  · rename_i own lab xs sp
    obtain ⟨l, h1, h2⟩ := Option.bind_eq_some_iff.1 hF
    split at h2
    · rename_i hl
      injection h2 with h2; subst h2
      obtain ⟨hlen, hA⟩ := hA
      obtain ⟨v0, rfl⟩ := one_val hlen
      have r0 : Rep T m (.sl own lab 1 xs sp) v0 := by simpa using (hA 0 _ rfl).1
      obtain ⟨g1, g2⟩ := byteRows_get h1
      have hx := byteRows_eq h1
      have hall : ∀ x ∈ xs, x.length = 1 := fun x hx' => by
        rw [hx] at hx'; obtain ⟨s, _, rfl⟩ := List.mem_map.1 hx'; rfl
      have hflat : xs.flatten = l.map (fun s => LV.int .u8 s) := by
        rw [hx]; clear hx g1 g2 h1 hl r0 hA hlen hF
        induction l with
        | nil => rfl
        | cons a r ih => simpa using ih
      have fin : ∀ (e : Ending) (w' : World), (∃ v', e = .returned v' ∧ w'.ownsRow m.w.heap.size (ρ.t 5) 1 v' xs.length (l.map (Value.int .u8)) ∧ Below m.w.heap.size m.w w') → (match e with
          | .returned v => ∃ m', m'.w = w' ∧ Post pb m m' ∧ ObjsOk T ob m' ∧ Rep T m' (.sl true 0 1 xs []) v ∧ Owns m' (.sl true 0 1 xs []) v (fun c => .res c)
          | _ => False) := by
        rintro e w' ⟨v', rfl, ho, hb⟩
        exact fresh_row hb ho (by decide) hall (fun j lv hj => by
          rw [hflat, List.getElem?_map] at hj
          obtain ⟨s, hs, rfl⟩ := Option.map_eq_some_iff.1 hj
          exact ⟨.int .u8 s, by rw [List.getElem?_map, hs]; rfl, rfl, .int _ _⟩) hO
      cases r0 with
      | nil =>
        have : l = [] := List.eq_nil_of_length_eq_zero (by rw [g1]; rfl)
        subst this
        refine (Any.bytes_Clone_nil L _ _ m.w).mono fun e w' he => ?_
        obtain ⟨rfl, rfl⟩ := he
        exact fin _ _ ⟨_, rfl, World.ownsRow_nil _ _ _ _, Below.refl _ _⟩
      | emp _ _ _ a0 =>
        have : l = [] := List.eq_nil_of_length_eq_zero (by rw [g1]; rfl)
        subst this
        refine (Any.bytes_Clone_at L a0 0 0 [] m.w rfl (by decide) (fun i hi => absurd hi (Nat.not_lt_zero _))).mono fun e w' he => ?_
        obtain ⟨v', rfl, ho, _, hb⟩ := he
        exact fin _ _ ⟨_, rfl, ho, hb⟩
      | sl _ _ _ _ _ b off cap val hc hz hm hr hM =>
        refine (Any.bytes_Clone_at L ⟨b, off, none⟩ xs.length cap l m.w g1 (by rw [← g1]; exact hl) (fun i hi => ?_)).mono fun e w' he => ?_
        · have hil : i < l.length := by omega
          have hxi := g2 i l[i] (List.getElem?_eq_getElem hil)
          have hx' : (xs ++ sp)[i]? = some [.int .u8 l[i]] := by rw [List.getElem?_append_left hi]; exact hxi
          obtain ⟨_, c2, _⟩ := hm i _ 0 _ hx' rfl
          have hrr := hr i _ 0 _ hx' rfl
          generalize val i 0 = u at c2 hrr
          cases hrr
          have e1 : l.getD i 0 = l[i] := by simp [List.getD, List.getElem?_eq_getElem hil]
          rw [e1]
          have ea : (⟨b, off, none⟩ : Addr).add i = ⟨b, off + i, none⟩ := by simp [Addr.add]
          rw [ea]
          simpa using c2
        · obtain ⟨v', rfl, ho, _, hb⟩ := he
          exact fin _ _ ⟨_, rfl, ho, hb⟩
    · cases h2
  · cases hF
end
end Tree
