/- bytes.Clone as a function that stands by its contract. -/
import Derived.Test.YtkdccglaeegdaaaDoorTF
import Derived.Laws.AppendOwn
import Derived.Shelf.SlicesE.Clone
import Derived.Shelf.Spec.SlicesGrow
import Derived.Test.YtkdccglaeegdaaaDoorExtV
import Derived.Shelf.Bytes.SlClone
set_option autoImplicit false
set_option linter.unusedVariables false
set_option linter.unusedSimpArgs false
namespace Tree
open Go Go.RowKit
section
variable {T : Tab} {pb : Nat} {m m' : Mem}

theorem ObjsOk.ext {ob : Obs} (h : ObjsOk T ob m) (he : m.ext m') (hn : m'.n = m.n) : ObjsOk T ob m' := by
  have hob : ∀ (id : Nat) (cs : List LV), ob[id]? = some cs → m'.ob id = m.ob id := fun id cs hi => he.le.ob id (by rw [h.n]; exact (List.getElem?_eq_some_iff.1 hi).1)
  refine ⟨hn.trans h.n, fun id cs hi => ?_, fun id i l z xs sp cs hi hc => ?_⟩
  · rw [hob id cs hi]; exact (h.obj id cs hi).ext he
  · obtain ⟨v, h1, h2⟩ := h.own id i l z xs sp cs hi hc
    exact ⟨v, by rw [hob id cs hi]; exact he.cell h1, h2.ext he⟩

/-- Behind a call that made a row of its own: what the kit's contracts tell, in the framework's words. -/
theorem fresh_row {ob : Obs} {w' : World} {e : TypeId} {z : Nat} {v : Value} {xs : List (List LV)} {cells : List Value} (hb : Below m.w.heap.size m.w w') (hown : w'.ownsRow m.w.heap.size e z v xs.length cells) (hz : 0 < z) (hx : ∀ x ∈ xs, x.length = z)
    (hcells : ∀ (j : Nat) (lv : LV), xs.flatten[j]? = some lv → ∃ u, cells[j]? = some u ∧ u.oneCell' = true ∧ Rep T m lv u) (hO : ObjsOk T ob m) :
    ∃ m' : Mem, m'.w = w' ∧ Post pb m m' ∧ ObjsOk T ob m' ∧ Rep T m' (.sl true 0 z xs []) v ∧ Tail m' z v (.res none) := by
  obtain ⟨hlen, hrow⟩ := hown
  let mk : (Nat → Nat → Kd) → Mem := fun c => { w := w', k := fun b o => if b < m.w.heap.size then m.k b o else c b o, ob := m.ob, n := m.n }
  have hext : ∀ c, m.ext (mk c) := by
    intro c
    have hk : ∀ b o, b < m.w.heap.size → (mk c).k b o = m.k b o := fun b o hlt => if_pos hlt
    refine ⟨⟨fun b o l u hc hi => ?_, Nat.le_refl _, fun _ _ => rfl⟩, fun b hlt => hb.block b hlt, hk⟩
    have hlt := cell_lt hc
    refine ⟨by rw [hk b o hlt]; exact hi, ?_⟩
    rw [← hc]; exact World.cell?_of_block (hb.block b hlt)
  have hpost : ∀ c, Post pb m (mk c) := fun c => ⟨hb.os, hb.tape, hb.output, hb.size, fun b hlt => .inl (hb.block b hlt), fun b o hlt _ => if_pos hlt, Nat.le_refl _, fun _ _ => rfl, fun _ h1 h2 => absurd h1 (Nat.not_le.2 h2)⟩
  rcases hrow with ⟨rfl, hn⟩ | ⟨g, cap, cur, rfl, hg, hh, hcap, hmax, hsz, htake⟩
  · have : xs = [] := List.eq_nil_of_length_eq_zero hn
    subst this
    exact ⟨mk (fun _ _ => .other), rfl, hpost _, hO.ext (hext _) rfl, .nil _ _ _, fun b o ht => ht.elim⟩
  · let c : Nat → Nat → Kd := fun b o => if b = g then (if o < xs.length * z then .imm 0 else .res none) else .other
    have hkg : ∀ o, (mk c).k g o = if o < xs.length * z then .imm 0 else .res none := by
      intro o
      show (if g < m.w.heap.size then _ else c g o) = _
      rw [if_neg (by omega)]; simp only [c, if_true]
    have hle := (hext c).le
    have hcur : ∀ (j : Nat) (u : Value), cells[j]? = some u → cur[j]? = some u := by
      intro j u hj
      have hjl : j < xs.length * z := by rw [← hlen]; exact (List.getElem?_eq_some_iff.1 hj).1
      rw [← htake, List.getElem?_take, if_pos hjl, Array.getElem?_toList] at hj
      exact hj
    have key : ∀ (k j : Nat), ∃ u, ∀ (x : List LV) (lv : LV), xs[k]? = some x → x[j]? = some lv → (mk c).k g (0 + k * z + j) = .imm 0 ∧ (mk c).w.cell? ⟨g, 0 + k * z + j, none⟩ = some u ∧ u.oneCell' = true ∧ Rep T (mk c) lv u := by
      intro k j
      by_cases hex : ∃ x lv, xs[k]? = some x ∧ x[j]? = some lv
      · obtain ⟨x, lv, h1, h2⟩ := hex
        have hxl := hx x (List.mem_of_getElem? h1)
        have hjz : j < z := by rw [← hxl]; exact (List.getElem?_eq_some_iff.1 h2).1
        have hfl := flat_get xs hx k j hjz
        rw [h1, Option.bind_some, h2] at hfl
        obtain ⟨u, g1, g2, g3⟩ := hcells _ lv hfl
        refine ⟨u, fun x' lv' h1' h2' => ?_⟩
        rw [h1] at h1'; injection h1' with h1'; subst h1'
        rw [h2] at h2'; injection h2' with h2'; subst h2'
        have hfll := (List.getElem?_eq_some_iff.1 hfl).1
        rw [flat_len xs hx] at hfll
        refine ⟨by rw [hkg, Nat.zero_add, if_pos hfll], ?_, g2, g3.mono hle⟩
        show w'.cell? _ = _
        simp only [World.cell?, hh, Nat.zero_add]
        simpa using hcur _ u g1
      · exact ⟨undef, fun x lv h1 h2 => absurd ⟨x, lv, h1, h2⟩ hex⟩
    refine ⟨mk c, rfl, hpost _, hO.ext (hext _) rfl, ?_, ?_⟩
    · refine Rep.sl true 0 z xs [] g 0 cap (fun k j => Classical.choose (key k j)) (by simpa using hcap) (by simpa using hx) (fun k x j lv hk hj => ?_) (fun k x j lv hk hj => ?_) hmax
      · have := Classical.choose_spec (key k j) x lv (by simpa using hk) hj
        exact ⟨this.1, this.2.1, this.2.2.1⟩
      · exact (Classical.choose_spec (key k j) x lv (by simpa using hk) hj).2.2.2
    · intro b o ht
      simp only [tail] at ht
      obtain ⟨rfl, h1, h2⟩ := ht
      refine ⟨by rw [hkg, if_neg (by omega)], cur, e, hh, by omega⟩
end
end Tree

set_option autoImplicit false
set_option linter.unusedVariables false
set_option linter.unusedSimpArgs false
namespace Tree
open Go Go.RowKit Go.Shelf Go.Proofs
def cloneF0 (size bytes : Nat) : List LV → Option LV
  | [.sl _ _ z xs _] => if z = size ∧ xs.length ≤ maxLen ∧ xs.length * bytes ≤ 140737488355328 then some (.sl true 0 size xs []) else none
  | _ => none
def cloneF (size bytes : Nat) (args : List LV) (_ : Obs) : Option LV := cloneF0 size bytes args
end Tree

set_option autoImplicit false
set_option linter.unusedVariables false
set_option linter.unusedSimpArgs false
namespace Tree
open Go Go.RowKit Go.Shelf Go.Proofs
def growF0 (size bytes : Nat) : List LV → Option LV
  | [.sl true _ z [] [], .int .i64 n] => if z = size ∧ 0 ≤ n ∧ n * bytes ≤ 140737488355328 ∧ n ≤ 4611686018427387904 then some (.sl true 0 size [] []) else none
  | _ => none
def growF (size bytes : Nat) (args : List LV) (_ : Obs) : Option LV := growF0 size bytes args
theorem ObjsOk.ren {T : Tab} {ob : Obs} {m : Mem} (h : ObjsOk T ob m) (f : Kd → Kd) (h1 : ∀ l, f (.imm l) = .imm l) (h2 : ∀ i, f (.obj i) = .obj i) (h3 : ∀ i c, f (.tail ⟨.obj i, c⟩) = .tail ⟨.obj i, c⟩) : ObjsOk T ob (m.ren f) := by
  refine ⟨h.n, fun id cs hi => (h.obj id cs hi).ren f h1 (h2 id), fun id i l z xs sp cs hi hc => ?_⟩
  obtain ⟨v, w1, w2⟩ := h.own id i l z xs sp cs hi hc
  have := w2.ren f
  rw [h3] at this
  exact ⟨v, w1, this⟩
/-- slices.Grow of an empty slice with the right to append. -/
theorem grow_ext {T : Tab} {E : Env} {ρ : Ren} (L : Lays8.n4 T.P ρ) {g : Nat} (hg : ∀ f, T.fn f = some g → f = ρ.f 4) {i0 : TypeInfo} {z : Value} {size bytes : Nat} (hi : T.P.info? (ρ.t 25) = some i0) (hz0 : i0.zero = some z) (hz1 : i0.size = size) (hz2 : i0.bytes = bytes) (hzs : z.cells.size = size) (hsz : 0 < size)
    (args : List LV) (r : LV) (ob : Obs) (pb : Nat) (hF : growF size bytes args ob = some r) : CallOk T E g args ob pb r ob := by
  intro f m vals hf hG hA hO
  obtain rfl := hg f hf
  change growF0 size bytes args = some r at hF
  unfold growF0 at hF
  split at hF
  · rename_i lab z' n
    split at hF
    · rename_i hc
      obtain ⟨rfl, hn0, hnb, hn63⟩ := hc
      injection hF with hF; subst hF
      obtain ⟨hlen, hA⟩ := hA
      obtain ⟨hr, ho⟩ := hA 0 _ rfl
      obtain ⟨hr1, _⟩ := hA 1 _ rfl
      obtain ⟨v0, v1, rfl⟩ : ∃ v0 v1, vals = #[v0, v1] := by
        have : vals.size = 2 := by simpa using hlen.symm
        exact ⟨vals[0], vals[1], by
          apply Array.ext
          · simp [this]
          · intro i h1 h2
            have : i = 0 ∨ i = 1 := by omega
            rcases this with rfl | rfl <;> rfl⟩
      have hr' : Rep T m (.sl true lab z' [] []) v0 := by simpa using hr
      have ho' : Tail m z' v0 (.tail ⟨.slot 0, none⟩) := by
        have : Owns m (LV.sl true lab z' [] []) v0 fun c => Kd.tail { root := Root.slot 0, cell := c } := by simpa using ho
        exact this
      have hr1' : Rep T m (.int .i64 n) v1 := by simpa using hr1
      cases hr1'
      obtain ⟨k, rfl⟩ : ∃ k : Nat, n = (k : Int) := ⟨n.toNat, by omega⟩
      have hkb : k * bytes ≤ 140737488355328 := by
        have : ((k * bytes : Nat) : Int) ≤ 140737488355328 := by rw [Int.natCast_mul]; exact hnb
        omega
      have hk63 : k ≤ 4611686018427387904 := by omega
      have room : ∀ (base : Option Addr) (c : Nat), v0 = .slice base 0 c → c ≤ maxLen → k ≤ c → Calls T.P (ρ.f 4) #[v0, .int .i64 (k : Int)] m.w (fun e w' => match e with
          | .returned v => ∃ m', m'.w = w' ∧ Post pb m m' ∧ ObjsOk T ob m' ∧ Rep T m' (.sl true 0 z' [] []) v ∧ Owns m' (.sl true 0 z' [] []) v (fun c => .res c)
          | _ => False) := by
        intro base c hv hc hkc
        subst hv
        unfold maxLen at hc
        refine Calls.mono (Any8.slices_Grow_room L base 0 c k m.w (Nat.zero_le _) (by omega) (by omega) (by omega)) (fun e w' he => ?_)
        obtain ⟨rfl, rfl⟩ := he
        have hren := retRen_ok (pb := pb) (.tmp 0)
        refine ⟨m.ren (retRen (.tmp 0)), rfl, Post.of_ren hren m, hO.ren _ hren.imm hren.obj (fun _ _ => rfl), ?_, ?_⟩
        · have := hr'.mono (le_ren m (retRen (.tmp 0)) hren.imm)
          cases this with
          | nil => exact .nil _ _ _
          | emp _ _ _ a0 => exact .emp _ _ _ a0
          | sl _ _ _ _ _ b off _ val h1 h2 h3 h4 h5 =>
            exact .sl true 0 z' [] [] b off _ val h1 h2 (fun i x j lv hi => by simp at hi) (fun i x j lv hi => by simp at hi) h5
        · have := ho'.ren (retRen (.tmp 0))
          simp only [retRen, if_true] at this
          exact this
      have grow : ∀ (base : Option Addr) (c : Nat) (cs : List Value), v0 = .slice base 0 c → c < k → cs.length = c * z' → (base = none → c = 0) → (∀ a, base = some a → ∀ (j : Nat) (v : Value), cs[j]? = some v → m.w.cell? (a.add j) = some v) →
          Calls T.P (ρ.f 4) #[v0, .int .i64 (k : Int)] m.w (fun e w' => match e with
          | .returned v => ∃ m', m'.w = w' ∧ Post pb m m' ∧ ObjsOk T ob m' ∧ Rep T m' (.sl true 0 z' [] []) v ∧ Owns m' (.sl true 0 z' [] []) v (fun c => .res c)
          | _ => False) := by
        intro base c cs hv hck hcl hnil hcs
        subst hv
        subst hz1
        refine Calls.mono (Any8.slices_Grow_grow L i0 z hi hz0 hsz base 0 c k cs m.w (Nat.zero_le _) (by omega) (by rw [Nat.zero_add, hz2]; exact hkb) (by omega) hcl hnil hcs) (fun e w' he => ?_)
        obtain ⟨rfl, rfl⟩ := he
        have hge := grownCap_ge m.w (0 + k) c (ρ.t 25)
        have hM := grownCap_le_maxLen m.w (0 + k) c (ρ.t 25) (by unfold maxLen; omega)
        generalize grownCap m.w (0 + k) c (ρ.t 25) = G at hge hM ⊢
        refine fresh_row (xs := []) (cells := []) (e := ρ.t 25) ((Below.refl _ m.w).drew.alloc (Nat.le_refl _) _) ⟨by simp, .inr ⟨m.w.heap.size, G, _, rfl, Nat.le_refl _, heap_alloc_new m.w.drew _, Nat.zero_le _, hM, ?_, by simp⟩⟩ hsz (by intro x hx; cases hx) (fun j lv hj => by simp at hj) hO
        simp only [Array.size_append, List.size_toArray, size_zeroCells, hcl, hzs]
        have e1 : c * i0.size + (0 + k - c) * i0.size = (0 + k) * i0.size := by rw [← Nat.add_mul]; congr 1; omega
        have e2 : (0 + k) * i0.size + (G - (0 + k)) * i0.size = G * i0.size := by rw [← Nat.add_mul]; congr 1; omega
        omega
      cases hr' with
      | nil =>
        by_cases h0 : k = 0
        · exact room none 0 rfl (by unfold maxLen; omega) (by omega)
        · exact grow none 0 [] rfl (by omega) (by simp) (fun _ => rfl) (fun a e => by cases e)
      | emp _ _ _ a0 =>
        by_cases h0 : k = 0
        · exact room (some a0) 0 rfl (by unfold maxLen; omega) (by omega)
        · exact grow (some a0) 0 [] rfl (by omega) (by simp) (fun e => by cases e) (fun a e j v hj => by simp at hj)
      | sl _ _ _ _ _ b off cap val h1 h2 h3 h4 h5 =>
        by_cases hk : k ≤ cap
        · exact room _ cap rfl h5 hk
        · have htail : ∀ o, off ≤ o → o < off + cap * z' → ∃ vs ty, m.w.heap[b]? = some (.cells vs ty (0, 0)) ∧ o < vs.size := fun o g1 g2 => (ho' b o ⟨rfl, by simpa using g1, g2⟩).2
          refine grow _ cap ((List.range (cap * z')).map fun j => (m.w.cell? ⟨b, off + j, none⟩).getD undef) rfl (by omega) (by simp) (fun e => by cases e) (fun a e j v hj => ?_)
          injection e with e; subst e
          rw [List.getElem?_map] at hj
          obtain ⟨j', q1, q2⟩ := Option.map_eq_some_iff.1 hj
          obtain ⟨q3, q4⟩ := List.getElem?_eq_some_iff.1 q1
          simp at q3 q4
          subst q4
          obtain ⟨vs, ty, g1, g2⟩ := htail (off + j) (by omega) (by omega)
          rw [Addr.add_lit, ← q2]
          simp [World.cell?, g1, g2]
    · cases hF
  · cases hF
end Tree

set_option autoImplicit false
set_option linter.unusedVariables false
set_option linter.unusedSimpArgs false
namespace Tree
open Go Go.RowKit Go.Proofs Go.Shelf
def byteRow : List LV → Option Int
  | [.int .u8 n] => some n
  | _ => none
def byteRows : List (List LV) → Option (List Int)
  | [] => some []
  | x :: r => (byteRow x).bind fun s => (byteRows r).map (s :: ·)
theorem byteRow_some {x : List LV} {s : Int} (h : byteRow x = some s) : x = [.int .u8 s] := by
  unfold byteRow at h
  split at h
  · injection h with h; subst h; rfl
  · cases h
theorem byteRows_get : ∀ {xs : List (List LV)} {l : List Int}, byteRows xs = some l → l.length = xs.length ∧ ∀ (j : Nat) s, l[j]? = some s → xs[j]? = some [.int .u8 s]
  | [], l, h => by
    simp only [byteRows, Option.some.injEq] at h; subst h
    exact ⟨rfl, fun j s hj => by simp at hj⟩
  | x :: r, l, h => by
    simp only [byteRows] at h
    obtain ⟨s, h1, h2⟩ := Option.bind_eq_some_iff.1 h
    obtain ⟨m, h3, rfl⟩ := Option.map_eq_some_iff.1 h2
    obtain ⟨a1, a2⟩ := byteRows_get h3
    refine ⟨by simp [a1], fun j s' hj => ?_⟩
    cases j with
    | zero => simp at hj; subst hj; rw [byteRow_some h1]; rfl
    | succ j => simpa using a2 j s' (by simpa using hj)
theorem byteRows_map : ∀ l : List Int, byteRows (l.map fun s => [.int .u8 s]) = some l
  | [] => rfl
  | s :: r => by simp [byteRows, byteRow, byteRows_map r]
theorem byteRows_eq {xs : List (List LV)} {l : List Int} (h : byteRows xs = some l) : xs = l.map fun s => [.int .u8 s] := by
  obtain ⟨h1, h2⟩ := byteRows_get h
  apply List.ext_getElem?
  intro j
  rw [List.getElem?_map]
  cases hq : l[j]? with
  | none => rw [Option.map_none, List.getElem?_eq_none_iff]; rw [List.getElem?_eq_none_iff] at hq; omega
  | some s => exact h2 j s hq
def bcloneF (args : List LV) (_ : Obs) : Option LV := match args with
  | [.sl _ _ 1 xs _] => (byteRows xs).bind fun l => if l.length ≤ 140737488355328 then some (.sl true 0 1 xs []) else none
  | _ => none
theorem one_val {vals : Array Value} (h : 1 = vals.size) : ∃ a, vals = #[a] :=
  ⟨vals[0], by
    apply Array.ext
    · simp [← h]
    · intro i h1 h2
      match i with
      | 0 => rfl
      | i + 1 => omega⟩
section
variable {T : Tab} {E : Env} {ρ : Ren}
theorem bclone_ext (L : SlLaysK.n4 T.P ρ) {g : Nat} (hg : ∀ f, T.fn f = some g → f = ρ.f 4) (args : List LV) (r : LV) (ob : Obs) (pb : Nat) (hF : bcloneF args ob = some r) : CallOk T E g args ob pb r ob := by
  intro f m vals hf hG hA hO
  obtain rfl := hg f hf
  unfold bcloneF at hF
  split at hF
  · rename_i own lab xs sp
    obtain ⟨l, h1, h2⟩ := Option.bind_eq_some_iff.1 hF
    split at h2
    · rename_i hl
      injection h2 with h2; subst h2
      obtain ⟨hlen, hA⟩ := hA
      obtain ⟨v0, rfl⟩ := one_val hlen
      have r0 : Rep T m (.sl own lab 1 xs sp) v0 := by simpa using (hA 0 _ rfl).1
      obtain ⟨g1, g2⟩ := byteRows_get h1
      have hx := byteRows_eq h1
      have hall : ∀ x ∈ xs, x.length = 1 := fun x hx' => by
        rw [hx] at hx'; obtain ⟨s, _, rfl⟩ := List.mem_map.1 hx'; rfl
      have hflat : xs.flatten = l.map (fun s => LV.int .u8 s) := by
        rw [hx]; clear hx g1 g2 h1 hl r0 hA hlen hF
        induction l with
        | nil => rfl
        | cons a r ih => simpa using ih
      have fin : ∀ (e : Ending) (w' : World), (∃ v', e = .returned v' ∧ w'.ownsRow m.w.heap.size (ρ.t 5) 1 v' xs.length (l.map (Value.int .u8)) ∧ Below m.w.heap.size m.w w') → (match e with
          | .returned v => ∃ m', m'.w = w' ∧ Post pb m m' ∧ ObjsOk T ob m' ∧ Rep T m' (.sl true 0 1 xs []) v ∧ Owns m' (.sl true 0 1 xs []) v (fun c => .res c)
          | _ => False) := by
        rintro e w' ⟨v', rfl, ho, hb⟩
        exact fresh_row hb ho (by decide) hall (fun j lv hj => by
          rw [hflat, List.getElem?_map] at hj
          obtain ⟨s, hs, rfl⟩ := Option.map_eq_some_iff.1 hj
          exact ⟨.int .u8 s, by rw [List.getElem?_map, hs]; rfl, rfl, .int _ _⟩) hO
      cases r0 with
      | nil =>
        have : l = [] := List.eq_nil_of_length_eq_zero (by rw [g1]; rfl)
        subst this
        refine (Any.bytes_Clone_nil L _ _ m.w).mono fun e w' he => ?_
        obtain ⟨rfl, rfl⟩ := he
        exact fin _ _ ⟨_, rfl, World.ownsRow_nil _ _ _ _, Below.refl _ _⟩
      | emp _ _ _ a0 =>
        have : l = [] := List.eq_nil_of_length_eq_zero (by rw [g1]; rfl)
        subst this
        refine (Any.bytes_Clone_at L a0 0 0 [] m.w rfl (by decide) (fun i hi => absurd hi (Nat.not_lt_zero _))).mono fun e w' he => ?_
        obtain ⟨v', rfl, ho, _, hb⟩ := he
        exact fin _ _ ⟨_, rfl, ho, hb⟩
      | sl _ _ _ _ _ b off cap val hc hz hm hr hM =>
        refine (Any.bytes_Clone_at L ⟨b, off, none⟩ xs.length cap l m.w g1 (by rw [← g1]; exact hl) (fun i hi => ?_)).mono fun e w' he => ?_
        · have hil : i < l.length := by omega
          have hxi := g2 i l[i] (List.getElem?_eq_getElem hil)
          have hx' : (xs ++ sp)[i]? = some [.int .u8 l[i]] := by rw [List.getElem?_append_left hi]; exact hxi
          obtain ⟨_, c2, _⟩ := hm i _ 0 _ hx' rfl
          have hrr := hr i _ 0 _ hx' rfl
          generalize val i 0 = u at c2 hrr
          cases hrr
          have e1 : l.getD i 0 = l[i] := by simp [List.getD, List.getElem?_eq_getElem hil]
          rw [e1]
          have ea : (⟨b, off, none⟩ : Addr).add i = ⟨b, off + i, none⟩ := by simp [Addr.add]
          rw [ea]
          simpa using c2
        · obtain ⟨v', rfl, ho, _, hb⟩ := he
          exact fin _ _ ⟨_, rfl, ho, hb⟩
    · cases h2
  · cases hF
end
end Tree
