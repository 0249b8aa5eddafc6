/- strings.Join, strings.Count (of one byte) and strings.LastIndexByte as functions that stand by their contracts. -/
import Derived.Test.YtkbpkiebcghghaaDoorTF
import Derived.Laws.AppendOwn
import Derived.Test.YtkbpkiebcghghaaDoorExtV
import Derived.Shelf.Strings.OnBuilder
import Derived.Shelf.Strings.Count
import Derived.Shelf.Strings.LastIndex
set_option autoImplicit false
set_option linter.unusedVariables false
set_option linter.unusedSimpArgs false
namespace Tree
open Go Go.RowKit
section
variable {T : Tab} {pb : Nat} {m m' : Mem}

theorem ObjsOk.ext {ob : Obs} (h : ObjsOk T ob m) (he : m.ext m') (hn : m'.n = m.n) : ObjsOk T ob m' := by
  have hob : ∀ (id : Nat) (cs : List LV), ob[id]? = some cs → m'.ob id = m.ob id := fun id cs hi => he.le.ob id (by rw [h.n]; exact (List.getElem?_eq_some_iff.1 hi).1)
  refine ⟨hn.trans h.n, fun id cs hi => ?_, fun id i l z xs sp cs hi hc => ?_⟩
  · rw [hob id cs hi]; exact (h.obj id cs hi).ext he
  · obtain ⟨v, h1, h2⟩ := h.own id i l z xs sp cs hi hc
    exact ⟨v, by rw [hob id cs hi]; exact he.cell h1, h2.ext he⟩

end
end Tree

set_option autoImplicit false
set_option linter.unusedVariables false
set_option linter.unusedSimpArgs false
namespace Tree
open Go Go.RowKit Go.Proofs Go.Shelf
/-- Behind a call of which only 'Below' is known. -/
theorem below_postS {T : Tab} {pb : Nat} {m : Mem} {ob : Obs} {w' : World} (hb : Below m.w.heap.size m.w w') (hO : ObjsOk T ob m) : ∃ m' : Mem, m'.w = w' ∧ Post pb m m' ∧ ObjsOk T ob m' := by
  let mk : Mem := { w := w', k := fun b o => if b < m.w.heap.size then m.k b o else .other, ob := m.ob, n := m.n }
  have hk : ∀ b o, b < m.w.heap.size → mk.k b o = m.k b o := fun b o hlt => if_pos hlt
  have hext : m.ext mk := by
    refine ⟨⟨fun b o l u hc hi => ?_, Nat.le_refl _, fun _ _ => rfl⟩, fun b hlt => hb.block b hlt, hk⟩
    have hlt := cell_lt hc
    refine ⟨by rw [hk b o hlt]; exact hi, ?_⟩
    rw [← hc]; exact World.cell?_of_block (hb.block b hlt)
  have hpost : Post pb m mk := ⟨hb.os, hb.tape, hb.output, hb.size, fun b hlt => .inl (hb.block b hlt), fun b o hlt _ => if_pos hlt, Nat.le_refl _, fun _ _ => rfl, fun _ h1 h2 => absurd h1 (Nat.not_le.2 h2)⟩
  exact ⟨mk, rfl, hpost, hO.ext hext rfl⟩
def strRow : List LV → Option ByteArray
  | [.str s] => some s
  | _ => none
def strRows : List (List LV) → Option (List ByteArray)
  | [] => some []
  | x :: r => (strRow x).bind fun s => (strRows r).map (s :: ·)
theorem strRow_some {x : List LV} {s : ByteArray} (h : strRow x = some s) : x = [.str s] := by
  unfold strRow at h
  split at h
  · injection h with h; subst h; rfl
  · cases h
theorem strRows_get : ∀ {xs : List (List LV)} {l : List ByteArray}, strRows xs = some l → l.length = xs.length ∧ ∀ (j : Nat) s, l[j]? = some s → xs[j]? = some [.str s]
  | [], l, h => by
    simp only [strRows, Option.some.injEq] at h; subst h
    exact ⟨rfl, fun j s hj => by simp at hj⟩
  | x :: r, l, h => by
    simp only [strRows] at h
    obtain ⟨s, h1, h2⟩ := Option.bind_eq_some_iff.1 h
    obtain ⟨m, h3, rfl⟩ := Option.map_eq_some_iff.1 h2
    obtain ⟨a1, a2⟩ := strRows_get h3
    refine ⟨by simp [a1], fun j s' hj => ?_⟩
    cases j with
    | zero => simp at hj; subst hj; rw [strRow_some h1]; rfl
    | succ j => simpa using a2 j s' (by simpa using hj)
theorem strRows_map : ∀ l : List ByteArray, strRows (l.map fun s => [.str s]) = some l
  | [] => rfl
  | s :: r => by simp [strRows, strRow, strRows_map r]
def joinB (l : List ByteArray) (sep : ByteArray) : List UInt8 := Lib.join (l.map (·.data.toList)) sep.data.toList
def joinF (args : List LV) (_ : Obs) : Option LV := match args with
  | [.sl _ _ _ xs _, .str sep] => (strRows xs).bind fun l => if l.length ≤ 140737488355328 ∧ (joinB l sep).length ≤ 140737488355328 then some (.str ⟨(joinB l sep).toArray⟩) else none
  | _ => none
def countF (args : List LV) (_ : Obs) : Option LV := match args with
  | [.str s, .str ⟨⟨[c]⟩⟩] => some (.int .i64 (Lib.countByte s.data.toList c))
  | _ => none
def lastF (args : List LV) (_ : Obs) : Option LV := match args with
  | [.str s, .int .u8 c] => if s.size < 4611686018427387904 then some (.int .i64 (Lib.lastIndexByte s c)) else none
  | _ => none
theorem two_vals {vals : Array Value} (h : 2 = vals.size) : ∃ a b, vals = #[a, b] :=
  ⟨vals[0], vals[1], by
    apply Array.ext
    · simp [← h]
    · intro i h1 h2
      match i with
      | 0 => rfl
      | 1 => rfl
      | i + 2 => omega⟩
section
variable {T : Tab} {E : Env} {ρ : Ren}
theorem join_ext (L : Lays.n156 T.P ρ) (X : Builder.Extra T.P ρ) {g : Nat} (hg : ∀ f, T.fn f = some g → f = ρ.f 156) (args : List LV) (r : LV) (ob : Obs) (pb : Nat) (hF : joinF args ob = some r) : CallOk T E g args ob pb r ob := by
  intro f m vals hf hG hA hO
  obtain rfl := hg f hf
  unfold joinF at hF
  split at hF
  · rename_i o lab z xs sp sep
    obtain ⟨l, h1, h2⟩ := Option.bind_eq_some_iff.1 hF
    split at h2
    · rename_i hl
      injection h2 with h2; subst h2
      obtain ⟨hlen, hA⟩ := hA
      obtain ⟨v0, v1, rfl⟩ := two_vals hlen
      have r0 : Rep T m (.sl o lab z xs sp) v0 := by simpa using (hA 0 _ rfl).1
      have r1 : Rep T m (.str sep) v1 := by simpa using (hA 1 _ rfl).1
      obtain ⟨g1, g2⟩ := strRows_get h1
      have fin : ∀ (e : Ending) (w' : World), e = .returned (.string ⟨(joinB l sep).toArray⟩) → Below m.w.heap.size m.w w' → (match e with
          | .returned v => ∃ m', m'.w = w' ∧ Post pb m m' ∧ ObjsOk T ob m' ∧ Rep T m' (.str ⟨(joinB l sep).toArray⟩) v ∧ Owns m' (.str ⟨(joinB l sep).toArray⟩) v (fun c => .res c)
          | _ => False) := by
        rintro e w' rfl hb
        obtain ⟨m', h1, h2, h3⟩ := below_postS (T := T) (pb := pb) hb hO
        exact ⟨m', h1, h2, h3, .str _, trivial⟩
      cases r1
      cases r0 with
      | nil =>
        have : l = [] := List.eq_nil_of_length_eq_zero (by rw [g1]; rfl)
        subst this
        refine (Any.strings_Join_none L X _ _ sep m.w).mono fun e w' he => ?_
        obtain ⟨rfl, rfl⟩ := he
        exact fin _ _ rfl (Below.refl _ _)
      | emp =>
        have : l = [] := List.eq_nil_of_length_eq_zero (by rw [g1]; rfl)
        subst this
        refine (Any.strings_Join_none L X _ _ sep m.w).mono fun e w' he => ?_
        obtain ⟨rfl, rfl⟩ := he
        exact fin _ _ rfl (Below.refl _ _)
      | sl _ _ _ _ _ b off cap val hc hz hm hr hM =>
        by_cases hl0 : l = []
        · subst hl0
          have h0 : xs.length = 0 := by simpa using g1.symm
          rw [h0]
          refine (Any.strings_Join_none L X _ _ sep m.w).mono fun e w' he => ?_
          obtain ⟨rfl, rfl⟩ := he
          exact fin _ _ rfl (Below.refl _ _)
        · have hget : ∀ (j : Nat) x, l[j]? = some x → z = 1 ∧ m.w.cell? ⟨b, off + j, none⟩ = some (.string x) := by
            intro j x hj
            have hx := g2 j x hj
            have hjl := (List.getElem?_eq_some_iff.1 hx).1
            have hx' : (xs ++ sp)[j]? = some [.str x] := by rw [List.getElem?_append_left hjl]; exact hx
            have hz1 : z = 1 := (hz _ (List.mem_of_getElem? hx')).symm
            subst hz1
            obtain ⟨_, c2, _⟩ := hm j _ 0 (.str x) hx' rfl
            have hrr := hr j _ 0 (.str x) hx' rfl
            generalize val j 0 = u at c2 hrr
            cases hrr
            refine ⟨rfl, ?_⟩
            simpa using c2
          have hlp := List.length_pos_iff.2 hl0
          have hbk : b < m.w.heap.size := cell_lt (hget 0 l[0] (List.getElem?_eq_getElem hlp)).2
          have := Any.strings_Join L X b off cap l sep m.w (fun j x hj => (hget j x hj).2) hbk hl.1 (by rw [g1]; rw [List.length_append] at hc; omega) hl.2
          rw [g1] at this
          exact this.mono fun e w' he => fin e w' he.1 he.2
    · cases h2
  · cases hF
theorem count_ext (L : Lays.n138 T.P ρ) {g : Nat} (hg : ∀ f, T.fn f = some g → f = ρ.f 138) (args : List LV) (r : LV) (ob : Obs) (pb : Nat) (hF : countF args ob = some r) : CallOk T E g args ob pb r ob := by
  intro f m vals hf hG hA hO
  obtain rfl := hg f hf
  unfold countF at hF
  split at hF
  · rename_i s c
    injection hF with hF; subst hF
    obtain ⟨hlen, hA⟩ := hA
    obtain ⟨v0, v1, rfl⟩ := two_vals hlen
    have r0 : Rep T m (.str s) v0 := by simpa using (hA 0 _ rfl).1
    have r1 : Rep T m (.str ⟨⟨[c]⟩⟩) v1 := by simpa using (hA 1 _ rfl).1
    cases r0; cases r1
    refine (Any.strings_Count_one L s c m.w).mono fun e w' he => ?_
    obtain ⟨rfl, rfl⟩ := he
    obtain ⟨m', h1, h2, h3⟩ := below_postS (T := T) (pb := pb) (Below.refl _ _) hO
    exact ⟨m', h1, h2, h3, .int _ _, trivial⟩
  · cases hF
theorem last_ext (L : Lays.n149 T.P ρ) {g : Nat} (hg : ∀ f, T.fn f = some g → f = ρ.f 149) (args : List LV) (r : LV) (ob : Obs) (pb : Nat) (hF : lastF args ob = some r) : CallOk T E g args ob pb r ob := by
  intro f m vals hf hG hA hO
  obtain rfl := hg f hf
  unfold lastF at hF
  split at hF
  · rename_i s c
    split at hF
    · rename_i hs
      injection hF with hF; subst hF
      obtain ⟨hlen, hA⟩ := hA
      obtain ⟨v0, v1, rfl⟩ := two_vals hlen
      have r0 : Rep T m (.str s) v0 := by simpa using (hA 0 _ rfl).1
      have r1 : Rep T m (.int .u8 c) v1 := by simpa using (hA 1 _ rfl).1
      cases r0; cases r1
      refine (Any.strings_LastIndexByte L s c hs m.w).mono fun e w' he => ?_
      obtain ⟨rfl, rfl⟩ := he
      obtain ⟨m', h1, h2, h3⟩ := below_postS (T := T) (pb := pb) (Below.refl _ _) hO
      exact ⟨m', h1, h2, h3, .int _ _, trivial⟩
    · cases hF
  · cases hF
end
end Tree
