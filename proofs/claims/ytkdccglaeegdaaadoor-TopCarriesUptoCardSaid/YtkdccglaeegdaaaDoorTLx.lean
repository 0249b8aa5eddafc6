/- Layer 11: a reader takes cells. -/
import Derived.Test.YtkdccglaeegdaaaDoorTLw
import Derived.Test.YtkdccglaeegdaaaDoorL11D0
set_option autoImplicit false
set_option linter.unusedVariables false
set_option linter.unusedSimpArgs false
set_option linter.unusedSectionVars false
namespace Tree.W11
open Go
set_option maxHeartbeats 8000000
set_option maxRecDepth 100000
def CellW (b : List Int) (a : Nat) (c : C) (a' : Nat) : Prop := okC c ∧ (c.k = 4 → nameOk c.node c.num) ∧ a' ≤ b.length ∧ cellB c ++ b.drop a' = b.drop a
def zag (n : Int) : Int := if n % 2 = 1 then -((n + 1) / 2) else n / 2
theorem zag_zig (n : Int) : zag (zig n) = n := by unfold zag zig; split <;> split <;> omega
theorem zig_zag (n : Nat) : zig (zag n) = n := by unfold zag zig; split <;> split <;> omega
section
variable {b : List Int} {a id : Nat} {f : Int} {ob : Obs} {pb : Nat} (hid : id < ob.length) (hpb : pb ≤ id) (hb : ∀ c ∈ b, 0 ≤ c ∧ c < 256) (hlen : b.length ≤ 1048576)
include hid hpb hb hlen
theorem oneT (bad : Bool) (ha : bad = false → a ≤ b.length) : ∃ (c : Int) (a' : Nat) (bad' : Bool) (f' : Int), Gives env11 515 [.optr id 0] (S ob id b a bad f) pb (.int .u8 c, S ob id b a' bad' f') ∧ (0 ≤ c ∧ c < 256) ∧ (bad' = false → bad = false ∧ a' = a + 1 ∧ a + 1 ≤ b.length ∧ b.drop a = c :: b.drop (a + 1)) ∧ (bad' = true → c = 0 ∧ (bad = true ∨ b.drop a = [])) := by
  cases bad with
  | true => exact ⟨0, a, true, f, oneB hid hpb, by decide, fun h => (nomatch h), fun _ => ⟨rfl, .inl rfl⟩⟩
  | false =>
    have ha := ha rfl
    by_cases he : a = b.length
    · exact ⟨0, a, true, a, oneE hid hpb he (by omega), by decide, fun h => (nomatch h), fun _ => ⟨rfl, .inr (by rw [he, List.drop_length])⟩⟩
    · obtain ⟨c, hc⟩ : ∃ c, b[a]? = some c := ⟨b[a]'(by omega), List.getElem?_eq_getElem (by omega)⟩
      exact ⟨c, a + 1, false, f, oneS hid hpb hc (by omega), hb c (List.mem_of_getElem? hc), fun _ => ⟨rfl, rfl, by omega, drop_at (j := 0) hc⟩, fun h => (nomatch h)⟩
theorem nameT (bad : Bool) (ha : bad = false → a ≤ b.length) : ∃ (x y : Int) (a' : Nat) (bad' : Bool) (f' : Int), Gives env11 516 [.optr id 0] (S ob id b a bad f) pb (nm2 x y, S ob id b a' bad' f') ∧ (bad' = false → bad = false ∧ NameW b a x y a') ∧ (bad' = true → bad = true ∨ ∀ x y a', ¬ NameW b a x y a') := by
  cases bad with
  | true => exact ⟨0, 0, a, true, f, nameBad hid hpb, fun h => (nomatch h), fun _ => .inl rfl⟩
  | false =>
    rcases nameS (f := f) hid hpb hb hlen (ha rfl) with ⟨x, y, a', h1, h2⟩ | ⟨h1, x, a', f', h2⟩
    · exact ⟨x, y, a', false, f, h2, fun _ => ⟨rfl, h1⟩, fun h => (nomatch h)⟩
    · exact ⟨x, 0, a', true, f', h2, fun h => (nomatch h), fun _ => .inr h1⟩
/-- How a cell's reading ends. -/
def endS (ob : Obs) (id : Nat) (b : List Int) (a0 a : Nat) (bad r : Bool) (f : Int) : Obs := if bad then S ob id b a true f else if r then S ob id b a false f else S ob id b a true a0
theorem cell_w4 {a2 : Nat} {bad bad2 : Bool} {f2 : Int} {a1 : Nat} {bad1 : Bool} {f1 : Int} {x y : Int} (hat1 : True) (r : Bool) (gR : ∀ ob pb, Gives env11 524 [(⟨4, emptyS, 0, x, y⟩ : C).lv] ob pb (.bool r, ob)) (g1 : Gives env11 515 [.optr id 0] (S ob id b a bad f) pb (.int .u8 4, S ob id b a1 bad1 f1)) (g2 : Gives env11 516 [.optr id 0] (S ob id b a1 bad1 f1) pb (nm2 x y, S ob id b a2 bad2 f2)) : Gives env11 522 [.optr id 0] (S ob id b a bad f) pb ((⟨4, emptyS, 0, x, y⟩ : C).lv, endS ob id b a a2 bad2 r f2) := by
  unfold C.lv C.row at *
  dsimp only at gR ⊢
  have hat := fun a' f' bad => S_at hid (v := rdO b a' bad f')
  have hat0 := hat a f bad
  have hat2 := hat a2 f2 bad2
  have gf := fun a' f' => failS (b := b) (a := a') (f := f') hid hpb (a : Int)
  unfold endS S at *
  generalize ob.set id (rdO b a1 bad1 f1) = O1 at *
  generalize ob.set id (rdO b a bad f) = O at *
  refine gives_code (f := tf522) rfl ?_
  conv => whnf
  refine ⟨_, _, ⟨hat0, rfl, rfl⟩, ?_⟩
  conv => whnf
  refine ⟨_, _, g1, fun h => (nomatch h), ?_⟩
  conv => whnf
  cases bad2 with
  | true =>
    generalize ob.set id (rdO b a2 true f2) = O2 at *
    refine ⟨_, _, g2, fun h => (nomatch h), ?_⟩
    conv => whnf
    refine ⟨_, _, ⟨hat2, rfl, rfl⟩, ?_⟩
    conv => whnf
    exact ⟨rfl, rfl, rfl⟩
  | false =>
    have gf := gf a2 f2
    generalize hO2 : ob.set id (rdO b a2 false f2) = O2 at *
    generalize hO3 : ob.set id (rdO b a2 true a) = O3 at *
    refine ⟨_, _, g2, fun h => (nomatch h), ?_⟩
    conv => whnf
    refine ⟨_, _, ⟨hat2, rfl, rfl⟩, ?_⟩
    conv => whnf
    refine ⟨_, _, gR _ _, fun _ => rfl, ?_⟩
    conv => whnf
    cases r with
    | true =>
      conv => whnf
      exact ⟨rfl, rfl, rfl⟩
    | false =>
      conv => whnf
      refine ⟨_, _, gf, fun h => (nomatch h), ?_⟩
      conv => whnf
      exact ⟨rfl, rfl, rfl⟩
theorem cell_w2 {a2 : Nat} {bad bad2 : Bool} {f2 : Int} {a1 : Nat} {bad1 : Bool} {f1 : Int} {s : ByteArray} (hat1 : True) (r : Bool) (gR : ∀ ob pb, Gives env11 524 [(⟨2, s, 0, 0, 0⟩ : C).lv] ob pb (.bool r, ob)) (g1 : Gives env11 515 [.optr id 0] (S ob id b a bad f) pb (.int .u8 2, S ob id b a1 bad1 f1)) (g2 : Gives env11 523 [.optr id 0, .bool false] (S ob id b a1 bad1 f1) pb (.str s, S ob id b a2 bad2 f2)) : Gives env11 522 [.optr id 0] (S ob id b a bad f) pb ((⟨2, s, 0, 0, 0⟩ : C).lv, endS ob id b a a2 bad2 r f2) := by
  unfold C.lv C.row at *
  dsimp only at gR ⊢
  have hat := fun a' f' bad => S_at hid (v := rdO b a' bad f')
  have hat0 := hat a f bad
  have hat2 := hat a2 f2 bad2
  have gf := fun a' f' => failS (b := b) (a := a') (f := f') hid hpb (a : Int)
  unfold endS S at *
  generalize ob.set id (rdO b a1 bad1 f1) = O1 at *
  generalize ob.set id (rdO b a bad f) = O at *
  refine gives_code (f := tf522) rfl ?_
  conv => whnf
  refine ⟨_, _, ⟨hat0, rfl, rfl⟩, ?_⟩
  conv => whnf
  refine ⟨_, _, g1, fun h => (nomatch h), ?_⟩
  conv => whnf
  cases bad2 with
  | true =>
    generalize ob.set id (rdO b a2 true f2) = O2 at *
    refine ⟨_, _, g2, fun h => (nomatch h), ?_⟩
    conv => whnf
    refine ⟨_, _, ⟨hat2, rfl, rfl⟩, ?_⟩
    conv => whnf
    exact ⟨rfl, rfl, rfl⟩
  | false =>
    have gf := gf a2 f2
    generalize hO2 : ob.set id (rdO b a2 false f2) = O2 at *
    generalize hO3 : ob.set id (rdO b a2 true a) = O3 at *
    refine ⟨_, _, g2, fun h => (nomatch h), ?_⟩
    conv => whnf
    refine ⟨_, _, ⟨hat2, rfl, rfl⟩, ?_⟩
    conv => whnf
    refine ⟨_, _, gR _ _, fun _ => rfl, ?_⟩
    conv => whnf
    cases r with
    | true =>
      conv => whnf
      exact ⟨rfl, rfl, rfl⟩
    | false =>
      conv => whnf
      refine ⟨_, _, gf, fun h => (nomatch h), ?_⟩
      conv => whnf
      exact ⟨rfl, rfl, rfl⟩
theorem cell_w3 {a2 : Nat} {bad bad2 : Bool} {f2 : Int} {a1 : Nat} {bad1 : Bool} {f1 : Int} {a3 : Nat} {bad3 : Bool} {f3 : Int} {s : ByteArray} {n : Int} (hat1 : True) (r : Bool) (gR : ∀ ob pb, Gives env11 524 [(⟨3, s, n, 0, 0⟩ : C).lv] ob pb (.bool r, ob)) (g1 : Gives env11 515 [.optr id 0] (S ob id b a bad f) pb (.int .u8 3, S ob id b a1 bad1 f1)) (g2 : Gives env11 523 [.optr id 0, .bool true] (S ob id b a1 bad1 f1) pb (.str s, S ob id b a3 bad3 f3)) (hn : 0 ≤ n ∧ n < 256) (g3 : Gives env11 515 [.optr id 0] (S ob id b a3 bad3 f3) pb (.int .u8 n, S ob id b a2 bad2 f2)) : Gives env11 522 [.optr id 0] (S ob id b a bad f) pb ((⟨3, s, n, 0, 0⟩ : C).lv, endS ob id b a a2 bad2 r f2) := by
  unfold C.lv C.row at *
  dsimp only at gR ⊢
  have hat := fun a' f' bad => S_at hid (v := rdO b a' bad f')
  have hat0 := hat a f bad
  have hat2 := hat a2 f2 bad2
  have gf := fun a' f' => failS (b := b) (a := a') (f := f') hid hpb (a : Int)
  unfold endS S at *
  have hw : IntKind.i64.wrap n = n := by rw [wrap64] <;> omega
  generalize ob.set id (rdO b a1 bad1 f1) = O1 at *
  generalize ob.set id (rdO b a3 bad3 f3) = O4 at *
  generalize ob.set id (rdO b a bad f) = O at *
  refine gives_code (f := tf522) rfl ?_
  conv => whnf
  refine ⟨_, _, ⟨hat0, rfl, rfl⟩, ?_⟩
  conv => whnf
  refine ⟨_, _, g1, fun h => (nomatch h), ?_⟩
  conv => whnf
  cases bad2 with
  | true =>
    generalize ob.set id (rdO b a2 true f2) = O2 at *
    refine ⟨_, _, g2, fun h => (nomatch h), ?_⟩
    conv => whnf
    refine ⟨_, _, g3, fun h => (nomatch h), ?_⟩
    conv => whnf
    rw [hw]
    conv => whnf
    refine ⟨_, _, ⟨hat2, rfl, rfl⟩, ?_⟩
    conv => whnf
    exact ⟨rfl, rfl, rfl⟩
  | false =>
    have gf := gf a2 f2
    generalize hO2 : ob.set id (rdO b a2 false f2) = O2 at *
    generalize hO3 : ob.set id (rdO b a2 true a) = O3 at *
    refine ⟨_, _, g2, fun h => (nomatch h), ?_⟩
    conv => whnf
    refine ⟨_, _, g3, fun h => (nomatch h), ?_⟩
    conv => whnf
    rw [hw]
    conv => whnf
    refine ⟨_, _, ⟨hat2, rfl, rfl⟩, ?_⟩
    conv => whnf
    refine ⟨_, _, gR _ _, fun _ => rfl, ?_⟩
    conv => whnf
    cases r with
    | true =>
      conv => whnf
      exact ⟨rfl, rfl, rfl⟩
    | false =>
      conv => whnf
      refine ⟨_, _, gf, fun h => (nomatch h), ?_⟩
      conv => whnf
      exact ⟨rfl, rfl, rfl⟩
theorem cell_w0 {a2 : Nat} {bad bad2 : Bool} {f2 : Int} {k : Int} (hat1 : True) (r : Bool) (gR : ∀ ob pb, Gives env11 524 [(⟨k, emptyS, 0, 0, 0⟩ : C).lv] ob pb (.bool r, ob)) (hk : k ≠ 1 ∧ k ≠ 2 ∧ k ≠ 3 ∧ k ≠ 4) (g1 : Gives env11 515 [.optr id 0] (S ob id b a bad f) pb (.int .u8 k, S ob id b a2 bad2 f2)) : Gives env11 522 [.optr id 0] (S ob id b a bad f) pb ((⟨k, emptyS, 0, 0, 0⟩ : C).lv, endS ob id b a a2 bad2 r f2) := by
  unfold C.lv C.row at *
  dsimp only at gR ⊢
  have hat := fun a' f' bad => S_at hid (v := rdO b a' bad f')
  have hat0 := hat a f bad
  have hat2 := hat a2 f2 bad2
  have gf := fun a' f' => failS (b := b) (a := a') (f := f') hid hpb (a : Int)
  unfold endS S at *
  generalize ob.set id (rdO b a bad f) = O at *
  refine gives_code (f := tf522) rfl ?_
  conv => whnf
  refine ⟨_, _, ⟨hat0, rfl, rfl⟩, ?_⟩
  conv => whnf
  refine ⟨_, _, g1, fun h => (nomatch h), ?_⟩
  conv => whnf
  cases bad2 with
  | true =>
    generalize ob.set id (rdO b a2 true f2) = O2 at *
    refine sel_f (by simp [hk.1]) ?_
    conv => whnf
    refine sel_f (by simp [hk.2.2.1]) ?_
    conv => whnf
    refine sel_f (by simp [hk.2.1]) ?_
    conv => whnf
    refine sel_f (by simp [hk.2.2.2]) ?_
    conv => whnf
    refine ⟨_, _, ⟨hat2, rfl, rfl⟩, ?_⟩
    conv => whnf
    exact ⟨rfl, rfl, rfl⟩
  | false =>
    have gf := gf a2 f2
    generalize hO2 : ob.set id (rdO b a2 false f2) = O2 at *
    generalize hO3 : ob.set id (rdO b a2 true a) = O3 at *
    refine sel_f (by simp [hk.1]) ?_
    conv => whnf
    refine sel_f (by simp [hk.2.2.1]) ?_
    conv => whnf
    refine sel_f (by simp [hk.2.1]) ?_
    conv => whnf
    refine sel_f (by simp [hk.2.2.2]) ?_
    conv => whnf
    refine ⟨_, _, ⟨hat2, rfl, rfl⟩, ?_⟩
    conv => whnf
    refine ⟨_, _, gR _ _, fun _ => rfl, ?_⟩
    conv => whnf
    cases r with
    | true =>
      conv => whnf
      exact ⟨rfl, rfl, rfl⟩
    | false =>
      conv => whnf
      refine ⟨_, _, gf, fun h => (nomatch h), ?_⟩
      conv => whnf
      exact ⟨rfl, rfl, rfl⟩
theorem cell_w1o {a2 : Nat} {bad bad2 : Bool} {f2 : Int} {a1 : Nat} {bad1 : Bool} {f1 : Int} {n : Nat} (hat1 : True) (r : Bool) (gR : ∀ ob pb, Gives env11 524 [(⟨1, emptyS, zag n, 0, 0⟩ : C).lv] ob pb (.bool r, ob)) (g1 : Gives env11 515 [.optr id 0] (S ob id b a bad f) pb (.int .u8 1, S ob id b a1 bad1 f1)) (ho : n % 2 = 1) (hn : n ≤ 1099511627776) (g2 : Gives env11 518 [.optr id 0, .int .i64 0, .int .i64 1099511627776] (S ob id b a1 bad1 f1) pb (.int .i64 n, S ob id b a2 bad2 f2)) : Gives env11 522 [.optr id 0] (S ob id b a bad f) pb ((⟨1, emptyS, zag n, 0, 0⟩ : C).lv, endS ob id b a a2 bad2 r f2) := by
  unfold C.lv C.row at *
  dsimp only at gR ⊢
  have hat := fun a' f' bad => S_at hid (v := rdO b a' bad f')
  have hat0 := hat a f bad
  have hat2 := hat a2 f2 bad2
  have gf := fun a' f' => failS (b := b) (a := a') (f := f') hid hpb (a : Int)
  unfold endS S at *
  have htm : (n : Int).tmod 2 = (n : Int) % 2 := Int.tmod_eq_emod_of_nonneg (by omega)
  have he2 : ¬ n % 2 = 1 → IntKind.i64.wrap ((n : Int).tdiv 2) = zag n := fun h => by
    rw [Int.tdiv_eq_ediv_of_nonneg (by omega), wrap64 (by omega) (by omega)]; unfold zag; rw [if_neg (by omega)]
  have ho2 : n % 2 = 1 → IntKind.i64.wrap ((IntKind.i64.wrap (0 - IntKind.i64.wrap ((n : Int) + 1))).tdiv 2) = zag n := fun h => by
    rw [wrap64 (x := (n : Int) + 1) (by omega) (by omega), wrap64 (x := 0 - ((n : Int) + 1)) (by omega) (by omega), show (0 - ((n : Int) + 1)) = -((n : Int) + 1) by omega, Int.neg_tdiv, Int.tdiv_eq_ediv_of_nonneg (by omega), wrap64 (by omega) (by omega)]; unfold zag; rw [if_pos (by omega)]
  generalize ob.set id (rdO b a1 bad1 f1) = O1 at *
  generalize ob.set id (rdO b a bad f) = O at *
  refine gives_code (f := tf522) rfl ?_
  conv => whnf
  refine ⟨_, _, ⟨hat0, rfl, rfl⟩, ?_⟩
  conv => whnf
  refine ⟨_, _, g1, fun h => (nomatch h), ?_⟩
  conv => whnf
  cases bad2 with
  | true =>
    generalize ob.set id (rdO b a2 true f2) = O2 at *
    refine ⟨_, _, g2, fun h => (nomatch h), ?_⟩
    conv => whnf
    refine ⟨by decide, ?_⟩
    conv => whnf
    refine ⟨by decide, ?_⟩
    conv => whnf
    refine sel_t (by rw [htm]; simp; omega) ?_
    conv => whnf
    refine ⟨by decide, ?_⟩
    conv => whnf
    rw [ho2 ho]
    conv => whnf
    refine ⟨_, _, ⟨hat2, rfl, rfl⟩, ?_⟩
    conv => whnf
    exact ⟨rfl, rfl, rfl⟩
  | false =>
    have gf := gf a2 f2
    generalize hO2 : ob.set id (rdO b a2 false f2) = O2 at *
    generalize hO3 : ob.set id (rdO b a2 true a) = O3 at *
    refine ⟨_, _, g2, fun h => (nomatch h), ?_⟩
    conv => whnf
    refine ⟨by decide, ?_⟩
    conv => whnf
    refine ⟨by decide, ?_⟩
    conv => whnf
    refine sel_t (by rw [htm]; simp; omega) ?_
    conv => whnf
    refine ⟨by decide, ?_⟩
    conv => whnf
    rw [ho2 ho]
    conv => whnf
    refine ⟨_, _, ⟨hat2, rfl, rfl⟩, ?_⟩
    conv => whnf
    refine ⟨_, _, gR _ _, fun _ => rfl, ?_⟩
    conv => whnf
    cases r with
    | true =>
      conv => whnf
      exact ⟨rfl, rfl, rfl⟩
    | false =>
      conv => whnf
      refine ⟨_, _, gf, fun h => (nomatch h), ?_⟩
      conv => whnf
      exact ⟨rfl, rfl, rfl⟩
theorem cell_w1e {a2 : Nat} {bad bad2 : Bool} {f2 : Int} {a1 : Nat} {bad1 : Bool} {f1 : Int} {n : Nat} (hat1 : True) (r : Bool) (gR : ∀ ob pb, Gives env11 524 [(⟨1, emptyS, zag n, 0, 0⟩ : C).lv] ob pb (.bool r, ob)) (g1 : Gives env11 515 [.optr id 0] (S ob id b a bad f) pb (.int .u8 1, S ob id b a1 bad1 f1)) (ho : ¬ n % 2 = 1) (hn : n ≤ 1099511627776) (g2 : Gives env11 518 [.optr id 0, .int .i64 0, .int .i64 1099511627776] (S ob id b a1 bad1 f1) pb (.int .i64 n, S ob id b a2 bad2 f2)) : Gives env11 522 [.optr id 0] (S ob id b a bad f) pb ((⟨1, emptyS, zag n, 0, 0⟩ : C).lv, endS ob id b a a2 bad2 r f2) := by
  unfold C.lv C.row at *
  dsimp only at gR ⊢
  have hat := fun a' f' bad => S_at hid (v := rdO b a' bad f')
  have hat0 := hat a f bad
  have hat2 := hat a2 f2 bad2
  have gf := fun a' f' => failS (b := b) (a := a') (f := f') hid hpb (a : Int)
  unfold endS S at *
  have htm : (n : Int).tmod 2 = (n : Int) % 2 := Int.tmod_eq_emod_of_nonneg (by omega)
  have he2 : ¬ n % 2 = 1 → IntKind.i64.wrap ((n : Int).tdiv 2) = zag n := fun h => by
    rw [Int.tdiv_eq_ediv_of_nonneg (by omega), wrap64 (by omega) (by omega)]; unfold zag; rw [if_neg (by omega)]
  have ho2 : n % 2 = 1 → IntKind.i64.wrap ((IntKind.i64.wrap (0 - IntKind.i64.wrap ((n : Int) + 1))).tdiv 2) = zag n := fun h => by
    rw [wrap64 (x := (n : Int) + 1) (by omega) (by omega), wrap64 (x := 0 - ((n : Int) + 1)) (by omega) (by omega), show (0 - ((n : Int) + 1)) = -((n : Int) + 1) by omega, Int.neg_tdiv, Int.tdiv_eq_ediv_of_nonneg (by omega), wrap64 (by omega) (by omega)]; unfold zag; rw [if_pos (by omega)]
  generalize ob.set id (rdO b a1 bad1 f1) = O1 at *
  generalize ob.set id (rdO b a bad f) = O at *
  refine gives_code (f := tf522) rfl ?_
  conv => whnf
  refine ⟨_, _, ⟨hat0, rfl, rfl⟩, ?_⟩
  conv => whnf
  refine ⟨_, _, g1, fun h => (nomatch h), ?_⟩
  conv => whnf
  cases bad2 with
  | true =>
    generalize ob.set id (rdO b a2 true f2) = O2 at *
    refine ⟨_, _, g2, fun h => (nomatch h), ?_⟩
    conv => whnf
    refine ⟨by decide, ?_⟩
    conv => whnf
    refine ⟨by decide, ?_⟩
    conv => whnf
    refine sel_f (by rw [htm]; simp; omega) ?_
    conv => whnf
    rw [he2 ho]
    conv => whnf
    refine ⟨_, _, ⟨hat2, rfl, rfl⟩, ?_⟩
    conv => whnf
    exact ⟨rfl, rfl, rfl⟩
  | false =>
    have gf := gf a2 f2
    generalize hO2 : ob.set id (rdO b a2 false f2) = O2 at *
    generalize hO3 : ob.set id (rdO b a2 true a) = O3 at *
    refine ⟨_, _, g2, fun h => (nomatch h), ?_⟩
    conv => whnf
    refine ⟨by decide, ?_⟩
    conv => whnf
    refine ⟨by decide, ?_⟩
    conv => whnf
    refine sel_f (by rw [htm]; simp; omega) ?_
    conv => whnf
    rw [he2 ho]
    conv => whnf
    refine ⟨_, _, ⟨hat2, rfl, rfl⟩, ?_⟩
    conv => whnf
    refine ⟨_, _, gR _ _, fun _ => rfl, ?_⟩
    conv => whnf
    cases r with
    | true =>
      conv => whnf
      exact ⟨rfl, rfl, rfl⟩
    | false =>
      conv => whnf
      refine ⟨_, _, gf, fun h => (nomatch h), ?_⟩
      conv => whnf
      exact ⟨rfl, rfl, rfl⟩
end
end Tree.W11

set_option autoImplicit false
set_option linter.unusedVariables false
set_option linter.unusedSimpArgs false
set_option linter.unusedSectionVars false
namespace Tree.W11
open Go
set_option maxHeartbeats 8000000
set_option maxRecDepth 100000
theorem kinds {c : C} (h : okC c) : c.k = 1 ∨ c.k = 2 ∨ c.k = 3 ∨ c.k = 4 := by
  rcases h with h | h | h | h
  · exact .inl h.1
  · exact .inr (.inl h.1)
  · exact .inr (.inr (.inl h.1))
  · exact .inr (.inr (.inr h.1))
theorem okC1 {d : C} (h : okC d) (hk : d.k = 1) : d = ⟨1, emptyS, d.n, 0, 0⟩ ∧ -2147483648 ≤ d.n ∧ d.n ≤ 2147483648 := by
  rcases h with h | h | h | h
  · obtain ⟨h1, h2, ⟨h3, h4⟩, h5, h6⟩ := h
    cases d; simp only at *; subst h1; subst h2; subst h3; subst h4; exact ⟨rfl, h5, h6⟩
  all_goals (have := h.1; omega)
theorem okC2 {d : C} (h : okC d) (hk : d.k = 2) : d = ⟨2, d.text, 0, 0, 0⟩ ∧ NameP d.text.data.toList := by
  rcases h with h | h | h | h
  · have := h.1; omega
  · obtain ⟨h1, h2, ⟨h3, h4⟩, h5⟩ := h
    cases d; simp only at *; subst h1; subst h3; subst h4; subst h5; exact ⟨rfl, h2⟩
  all_goals (have := h.1; omega)
theorem name_size {s : ByteArray} (h : NameP s.data.toList) : s.size ≤ 16 := by
  have := h.2.1
  have e : s.size = s.data.toList.length := rfl
  omega
theorem sign_size {s : ByteArray} (h : SignP s) : s.size ≤ 16 := by
  have e : s.size = s.data.toList.length := rfl
  have key : ∀ l ∈ sgn, l.length ≤ 16 := by decide
  have := key _ h
  omega
theorem okC3 {d : C} (h : okC d) (hk : d.k = 3) : d = ⟨3, d.text, d.n, 0, 0⟩ ∧ 0 ≤ d.n ∧ d.n < 256 ∧ d.text.size ≤ 16 ∧ TokT true d.text := by
  rcases h with h | h | h | h
  · have := h.1; omega
  · have := h.1; omega
  · obtain ⟨h1, ⟨h3, h4⟩, h5⟩ := h
    have h6 : 0 ≤ d.n ∧ d.n < 256 := by rcases h5 with g | g <;> omega
    refine ⟨by cases d; simp only at *; subst h1; subst h3; subst h4; rfl, h6.1, h6.2, ?_, ?_⟩
    · rcases h5 with g | g
      · exact name_size g.1
      · exact sign_size g.1
    · rcases h5 with g | g
      · exact .inl g.1
      · exact .inr ⟨rfl, .inr (.inr (.inl ⟨rfl, ⟨rfl, rfl⟩, .inr ⟨g.1, rfl⟩⟩))⟩
  · have := h.1; omega
theorem okC4 {d : C} (h : okC d) (hk : d.k = 4) : d = ⟨4, emptyS, 0, d.node, d.num⟩ := by
  rcases h with h | h | h | h
  · have := h.1; omega
  · have := h.1; omega
  · have := h.1; omega
  · obtain ⟨h1, h2, h3, _⟩ := h
    cases d; simp only at *; subst h1; subst h2; subst h3; rfl
section
variable {b : List Int} {a id : Nat} {f : Int} {ob : Obs} {pb : Nat}
theorem cell_fin {bad bad2 r : Bool} {a2 : Nat} {f2 : Int} {c : C} (hg : Gives env11 522 [.optr id 0] (S ob id b a bad f) pb (c.lv, endS ob id b a a2 bad2 r f2)) (hr : r = true ↔ okC c) (hf : c.fine) (h1 : bad2 = false → bad = false ∧ a2 ≤ b.length ∧ cellB c ++ b.drop a2 = b.drop a ∧ (c.k = 4 → nameOk c.node c.num) ∧ ∀ d a', CellW b a d a' → d = c) (h2 : bad2 = true → bad = true ∨ ∀ d a', ¬ CellW b a d a') : ∃ (c : C) (a' : Nat) (bad' : Bool) (f' : Int), c.fine ∧ Gives env11 522 [.optr id 0] (S ob id b a bad f) pb (c.lv, S ob id b a' bad' f') ∧ (bad' = false → bad = false ∧ CellW b a c a') ∧ (bad' = true → bad = true ∨ ∀ c a', ¬ CellW b a c a') := by
  cases bad2 with
  | true => exact ⟨c, a2, true, f2, hf, hg, fun h => (nomatch h), fun _ => h2 rfl⟩
  | false =>
    obtain ⟨q1, q2, q3, q4, q5⟩ := h1 rfl
    cases r with
    | true => exact ⟨c, a2, false, f2, hf, hg, fun _ => ⟨q1, hr.1 rfl, q4, q2, q3⟩, fun h => (nomatch h)⟩
    | false => exact ⟨c, a2, true, a, hf, hg, fun h => (nomatch h), fun _ => .inr fun d a' h => by have := q5 d a' h; subst this; have := hr.2 h.1; cases this⟩
variable (hid : id < ob.length) (hpb : pb ≤ id) (hb : ∀ c ∈ b, 0 ≤ c ∧ c < 256) (hlen : b.length ≤ 1048576)
include hid hpb hb hlen
theorem cellT (bad : Bool) (ha : bad = false → a ≤ b.length) : ∃ (c : C) (a' : Nat) (bad' : Bool) (f' : Int), c.fine ∧ Gives env11 522 [.optr id 0] (S ob id b a bad f) pb (c.lv, S ob id b a' bad' f') ∧ (bad' = false → bad = false ∧ CellW b a c a') ∧ (bad' = true → bad = true ∨ ∀ c a', ¬ CellW b a c a') := by
  obtain ⟨k, a1, bad1, f1, g1, hkb, h1, k1⟩ := oneT (a := a) (f := f) hid hpb hb hlen bad ha
  have hrest : bad1 = false → ∀ d a', CellW b a d a' → d.k = k ∧ restB d ++ b.drop a' = b.drop (a + 1) := fun h d a' hW => by
    have h3 := hW.2.2.2
    rw [(h1 h).2.2.2] at h3
    unfold cellB at h3
    exact List.cons.inj h3
  by_cases e4 : k = 1 ∨ k = 2 ∨ k = 3 ∨ k = 4
  · have hb1 : bad1 = false := by
      cases bad1 with
      | false => rfl
      | true => have := (k1 rfl).1; omega
    subst hb1
    obtain ⟨j1, rfl, j3, j4⟩ := h1 rfl
    have hrest := hrest rfl
    rcases e4 with rfl | rfl | rfl | rfl
    · obtain ⟨n, a2, bad2, f2, g2, h2, k2⟩ := numberT (a := a + 1) (f := f1) hid hpb hb hlen 0 1099511627776 (by decide) false (fun _ => j3)
      have hn : n ≤ 1099511627776 := by
        cases bad2 with
        | false => have := (h2 rfl).2.2.1; omega
        | true => have := (k2 rfl).1; omega
      have hf : (⟨1, emptyS, zag n, 0, 0⟩ : C).fine := ⟨Nat.zero_le _, by show (0 : Int) ≤ 1; decide, by show (1 : Int) ≤ 255; decide⟩
      obtain ⟨r, hr⟩ := boolOf (okC ⟨1, emptyS, zag n, 0, 0⟩)
      have gR := fun ob pb => rightCell_ok ⟨1, emptyS, zag n, 0, 0⟩ hf ob pb r hr
      have hr1 : ∀ d a', CellW b a d a' → numB (zig d.n) ++ b.drop a' = b.drop (a + 1) := fun d a' hW => by
        obtain ⟨w1, w2⟩ := hrest d a' hW
        unfold restB at w2
        rwa [if_pos w1] at w2
      have hg : Gives env11 522 [.optr id 0] (S ob id b a bad f) pb ((⟨1, emptyS, zag n, 0, 0⟩ : C).lv, endS ob id b a a2 bad2 r f2) := by
        by_cases ho : n % 2 = 1
        · exact cell_w1o hid hpb hb hlen trivial r gR g1 ho hn g2
        · exact cell_w1e hid hpb hb hlen trivial r gR g1 ho hn g2
      refine cell_fin hg hr hf (fun h => ⟨j1, (h2 h).2.2.2.1, ?_, fun h => ?_, fun d a' hW => ?_⟩) (fun h => .inr fun d a' hW => ?_)
      · rw [j4, ← (h2 h).2.2.2.2]
        show (1 : Int) :: (restB _ ++ _) = _
        unfold restB
        rw [if_pos rfl, zig_zag]
      · exact absurd h (by show ¬ (1 : Int) = 4; decide)
      · have w1 := (hrest d a' hW).1
        have w2 := hr1 d a' hW
        obtain ⟨w3, _⟩ := okC1 hW.1 w1
        have w4 := (numB_inj _ _ _ _ (w2.trans (h2 h).2.2.2.2.symm)).1
        rw [w3, ← w4, zag_zig]
      · have w1 := (hrest d a' hW).1
        have w2 := hr1 d a' hW
        obtain ⟨w3, w4, w5⟩ := okC1 hW.1 w1
        rcases (k2 h).2 with h5 | h5
        · cases h5
        · exact h5 (zig d.n) a' ⟨by omega, by unfold zig; split <;> omega, hW.2.2.1, w2⟩
    · obtain ⟨s, a2, bad2, f2, hs, g2, h2, k2⟩ := textT (a := a + 1) (f := f1) hid hpb hb hlen false false (fun _ => j3)
      have hf : (⟨2, s, 0, 0, 0⟩ : C).fine := ⟨by show s.size ≤ _; unfold maxLen; omega, by show (0 : Int) ≤ 2; decide, by show (2 : Int) ≤ 255; decide⟩
      obtain ⟨r, hr⟩ := boolOf (okC ⟨2, s, 0, 0, 0⟩)
      have gR := fun ob pb => rightCell_ok ⟨2, s, 0, 0, 0⟩ hf ob pb r hr
      have hr1 : ∀ d a', CellW b a d a' → strB d.text ++ b.drop a' = b.drop (a + 1) := fun d a' hW => by
        obtain ⟨w1, w2⟩ := hrest d a' hW
        unfold restB at w2
        rwa [if_neg (by omega), if_pos w1] at w2
      have hg := cell_w2 (bad := bad) (f := f) hid hpb hb hlen trivial r gR g1 g2
      refine cell_fin hg hr hf (fun h => ⟨j1, (h2 h).2.2.2.1, ?_, fun h => ?_, fun d a' hW => ?_⟩) (fun h => .inr fun d a' hW => ?_)
      · rw [j4, ← (h2 h).2.2.2.2]
        show (2 : Int) :: (restB _ ++ _) = _
        unfold restB
        rw [if_neg (by show ¬ (2 : Int) = 1; decide), if_pos rfl]
      · exact absurd h (by show ¬ (2 : Int) = 4; decide)
      · have w1 := (hrest d a' hW).1
        have w2 := hr1 d a' hW
        obtain ⟨w3, _⟩ := okC2 hW.1 w1
        have w4 := (strB_inj (w2.trans (h2 h).2.2.2.2.symm)).1
        rw [w3, w4]
      · have w1 := (hrest d a' hW).1
        have w2 := hr1 d a' hW
        obtain ⟨w3, w4⟩ := okC2 hW.1 w1
        rcases k2 h with h5 | h5
        · cases h5
        · exact h5 d.text a' ⟨name_size w4, .inl w4, hW.2.2.1, w2⟩
    · obtain ⟨s, a3, bad3, f3, hs, g2, h2, k2⟩ := textT (a := a + 1) (f := f1) hid hpb hb hlen true false (fun _ => j3)
      obtain ⟨n, a2, bad2, f2, g3, hnb, h3, k3⟩ := oneT (a := a3) (f := f3) hid hpb hb hlen bad3 (fun h => (h2 h).2.2.2.1)
      have hf : (⟨3, s, n, 0, 0⟩ : C).fine := ⟨by show s.size ≤ _; unfold maxLen; omega, by show (0 : Int) ≤ 3; decide, by show (3 : Int) ≤ 255; decide⟩
      obtain ⟨r, hr⟩ := boolOf (okC ⟨3, s, n, 0, 0⟩)
      have gR := fun ob pb => rightCell_ok ⟨3, s, n, 0, 0⟩ hf ob pb r hr
      have hr1 : ∀ d a', CellW b a d a' → strB d.text ++ (IntKind.u8.wrap d.n :: b.drop a') = b.drop (a + 1) := fun d a' hW => by
        obtain ⟨w1, w2⟩ := hrest d a' hW
        unfold restB at w2
        rw [if_neg (by omega), if_neg (by omega), if_pos w1, List.append_assoc] at w2
        exact w2
      have hg := cell_w3 (bad := bad) (f := f) hid hpb hb hlen trivial r gR g1 g2 hnb g3
      refine cell_fin hg hr hf (fun h => ?_) (fun h => .inr fun d a' hW => ?_)
      · obtain ⟨p1, p2, p3, p4⟩ := h3 h
        have h2 := (h2 p1).2
        refine ⟨j1, by omega, ?_, fun h => ?_, fun d a' hW => ?_⟩
        · rw [j4, ← h2.2.2.2, p4, p2]
          show (3 : Int) :: (restB _ ++ _) = _
          unfold restB
          rw [if_neg (by show ¬ (3 : Int) = 1; decide), if_neg (by show ¬ (3 : Int) = 2; decide), if_pos rfl]
          show (3 : Int) :: (strB s ++ [IntKind.u8.wrap n] ++ _) = _
          rw [wrap8 hnb.1 hnb.2, List.append_assoc]; rfl
        · exact absurd h (by show ¬ (3 : Int) = 4; decide)
        · have w1 := (hrest d a' hW).1
          have w2 := hr1 d a' hW
          obtain ⟨w3, w5, w6, _⟩ := okC3 hW.1 w1
          obtain ⟨w4, w7⟩ := strB_inj (w2.trans h2.2.2.2.symm)
          rw [p4, wrap8 w5 w6] at w7
          have := (List.cons.inj w7).1
          rw [w3, w4, this]
      · have w1 := (hrest d a' hW).1
        have w2 := hr1 d a' hW
        obtain ⟨w3, w5, w6, w7, w8⟩ := okC3 hW.1 w1
        have hbig : ∀ (_ : ∀ s a', ¬ TextW true b (a + 1) s a'), False := fun h5 => by
          obtain ⟨v1, v2⟩ := drop_app j3 w2
          exact h5 d.text _ ⟨w7, w8, v2, by rw [← v1]; exact w2⟩
        rcases (k3 h).2 with h5 | h5
        · rcases k2 h5 with h6 | h6
          · cases h6
          · exact hbig h6
        · by_cases hb3 : bad3 = true
          · rcases k2 hb3 with h6 | h6
            · cases h6
            · exact hbig h6
          have h2 := (h2 (by simpa using hb3)).2
          obtain ⟨w4, w7⟩ := strB_inj (w2.trans h2.2.2.2.symm)
          rw [h5] at w7; cases w7
    · obtain ⟨x, y, a2, bad2, f2, g2, h2, k2⟩ := nameT (a := a + 1) (f := f1) hid hpb hb hlen false (fun _ => j3)
      have hf : (⟨4, emptyS, 0, x, y⟩ : C).fine := ⟨Nat.zero_le _, by show (0 : Int) ≤ 4; decide, by show (4 : Int) ≤ 255; decide⟩
      obtain ⟨r, hr⟩ := boolOf (okC ⟨4, emptyS, 0, x, y⟩)
      have gR := fun ob pb => rightCell_ok ⟨4, emptyS, 0, x, y⟩ hf ob pb r hr
      have hr1 : ∀ d a', CellW b a d a' → nameB d.node d.num ++ b.drop a' = b.drop (a + 1) := fun d a' hW => by
        obtain ⟨w1, w2⟩ := hrest d a' hW
        unfold restB at w2
        rwa [if_neg (by omega), if_neg (by omega), if_neg (by omega), if_pos w1] at w2
      have hg := cell_w4 (bad := bad) (f := f) hid hpb hb hlen trivial r gR g1 g2
      refine cell_fin hg hr hf (fun h => ⟨j1, (h2 h).2.2.1, ?_, fun _ => (h2 h).2.1, fun d a' hW => ?_⟩) (fun h => .inr fun d a' hW => ?_)
      · rw [j4, ← (h2 h).2.2.2]
        show (4 : Int) :: (restB _ ++ _) = _
        unfold restB
        rw [if_neg (by show ¬ (4 : Int) = 1; decide), if_neg (by show ¬ (4 : Int) = 2; decide), if_neg (by show ¬ (4 : Int) = 3; decide), if_pos rfl]
      · have w1 := (hrest d a' hW).1
        have w2 := hr1 d a' hW
        have w3 := okC4 hW.1 w1
        have w4 := (nameB_inj (hW.2.1 w1) (h2 h).2.1 (w2.trans (h2 h).2.2.2.symm)).1
        rw [w3, w4.1, w4.2]
      · have w1 := (hrest d a' hW).1
        have w2 := hr1 d a' hW
        rcases k2 h with h5 | h5
        · cases h5
        · exact h5 d.node d.num a' ⟨hW.2.1 w1, hW.2.2.1, w2⟩
  · have hf : (⟨k, emptyS, 0, 0, 0⟩ : C).fine := ⟨Nat.zero_le _, hkb.1, by show k ≤ 255; omega⟩
    obtain ⟨r, hr⟩ := boolOf (okC ⟨k, emptyS, 0, 0, 0⟩)
    have gR := fun ob pb => rightCell_ok ⟨k, emptyS, 0, 0, 0⟩ hf ob pb r hr
    have hg := cell_w0 (bad := bad) (f := f) hid hpb hb hlen trivial r gR (by omega) g1
    refine cell_fin hg hr hf (fun h => ?_) (fun h => ?_)
    · obtain ⟨j1, j2, j3, j4⟩ := h1 h
      refine ⟨j1, by omega, ?_, fun h => ?_, fun d a' hW => ?_⟩
      · rw [j4, j2]
        show k :: (restB _ ++ _) = _
        unfold restB
        rw [if_neg (by show ¬ k = 1; omega), if_neg (by show ¬ k = 2; omega), if_neg (by show ¬ k = 3; omega), if_neg (by show ¬ k = 4; omega)]; rfl
      · exact absurd h (by show ¬ k = 4; omega)
      · have := kinds hW.1
        have := (hrest h d a' hW).1
        omega
    · rcases (k1 h).2 with h5 | h5
      · exact .inl h5
      · refine .inr fun d a' hW => ?_
        have := hW.2.2.2
        rw [h5] at this
        unfold cellB at this; cases this
end
end Tree.W11

set_option autoImplicit false
set_option linter.unusedVariables false
set_option linter.unusedSimpArgs false
set_option linter.unusedSectionVars false
namespace Tree.W11
open Go
set_option maxHeartbeats 8000000
set_option maxRecDepth 100000
def TermW (b : List Int) (a : Nat) (cs : List C) (a' : Nat) : Prop := TermOk cs ∧ a' ≤ b.length ∧ termB cs ++ b.drop a' = b.drop a
def okN (c : C) : Prop := okC c ∧ (c.k = 4 → nameOk c.node c.num)
structure Tg (n : Nat) (b : List Int) (a2 : Nat) (cs : List C) (a3 : Nat) (o : Nat) : Prop where
  ok : ∀ c ∈ cs, okN c
  pos : a3 ≤ b.length
  bytes : cs.flatMap cellB ++ b.drop a3 = b.drop a2
  wk : ∀ l, walk (cs ++ l) 1 = walk l o
  le : o ≤ n - cs.length
  len : cs.length ≤ n
  more : cs.length < n → 0 < o
/-- n cells, a term, stand at a2. -/
def TW (n : Nat) (b : List Int) (a2 : Nat) (ds : List C) (a' : Nat) : Prop := ds.length = n ∧ walk ds 1 = some [] ∧ (∀ c ∈ ds, okN c) ∧ a' ≤ b.length ∧ ds.flatMap cellB ++ b.drop a' = b.drop a2
theorem tg_wit {n : Nat} {b : List Int} {a2 a3 o : Nat} {cs : List C} (h : Tg n b a2 cs a3 o) (hl : cs.length < n) {ds : List C} {a' : Nat} (hW : TW n b a2 ds a') : ∃ c tl, ds = cs ++ c :: tl ∧ okN c ∧ cellB c ++ (tl.flatMap cellB ++ b.drop a') = b.drop a3 ∧ tl.length = n - cs.length - 1 ∧ walk tl (o - 1 + ar c) = some [] := by
  obtain ⟨h1, h2, h3, h4, h5⟩ := hW
  have e : ds = ds.take cs.length ++ ds.drop cs.length := (List.take_append_drop _ _).symm
  have h6 := h5
  rw [e, List.flatMap_append, List.append_assoc] at h6
  obtain ⟨y1, y2⟩ := flat_inj _ _ _ _ (by rw [List.length_take]; omega) (fun c hc => h3 c (List.mem_of_mem_take hc)) h.ok (h6.trans h.bytes.symm)
  rw [y1] at e
  cases hD : ds.drop cs.length with
  | nil =>
    have := congrArg List.length hD
    rw [List.length_drop] at this; simp at this; omega
  | cons c tl =>
    rw [hD] at e y2
    have hlen := congrArg List.length e
    rw [List.length_append, List.length_cons] at hlen
    refine ⟨c, tl, e, h3 c (by rw [e]; simp), by simpa using y2, by omega, ?_⟩
    have := h.more hl
    rw [e, h.wk] at h2
    obtain ⟨o', rfl⟩ : ∃ o', o = o' + 1 := ⟨o - 1, by omega⟩
    rw [walk] at h2
    simpa using h2
theorem tg_next {n : Nat} {b : List Int} {a2 a3 o a4 : Nat} {cs : List C} (h : Tg n b a2 cs a3 o) (hl : cs.length < n) {c : C} (hc : CellW b a3 c a4) (h1 : o - 1 + ar c ≤ n - cs.length - 1) (h2 : ¬ (o - 1 + ar c = 0 ∧ 0 < n - cs.length - 1)) : Tg n b a2 (cs ++ [c]) a4 (o - 1 + ar c) := by
  have hm := h.more hl
  obtain ⟨q1, q2, q3, q4⟩ := hc
  refine ⟨fun d hd => ?_, q3, ?_, fun l => ?_, ?_, ?_, fun h3 => ?_⟩
  · rcases List.mem_append.1 hd with hd | hd
    · exact h.ok d hd
    · rw [List.mem_singleton.1 hd]; exact ⟨q1, q2⟩
  · rw [List.flatMap_append, List.append_assoc]
    simp only [List.flatMap_cons, List.flatMap_nil, List.append_nil]
    rw [q4]; exact h.bytes
  · rw [List.append_assoc, h.wk]
    obtain ⟨o', rfl⟩ : ∃ o', o = o' + 1 := ⟨o - 1, by omega⟩
    show walk (c :: l) (o' + 1) = _
    rw [walk]; rfl
  · rw [List.length_append]; simp; omega
  · rw [List.length_append]; simp; omega
  · rw [List.length_append] at h3; simp at h3; omega
theorem tg_no {n : Nat} {b : List Int} {a2 a3 o a4 : Nat} {cs : List C} (h : Tg n b a2 cs a3 o) (hl : cs.length < n) {c : C} (hc : CellW b a3 c a4) (h1 : n - cs.length - 1 < o - 1 + ar c ∨ (o - 1 + ar c = 0 ∧ 0 < n - cs.length - 1)) (ds : List C) (a' : Nat) : ¬ TW n b a2 ds a' := by
  intro hW
  obtain ⟨d, tl, e, hd, h2, h3, h4⟩ := tg_wit h hl hW
  obtain ⟨q1, q2, q3, q4⟩ := hc
  have := (cellB_inj hd.1 q1 hd.2 q2 (h2.trans q4.symm)).1
  subst this
  have h5 := (walk_le _ _ _ h4).1
  rcases h1 with h1 | h1
  · omega
  · rw [h1.1, walk_zero] at h4
    injection h4 with h4
    rw [h4] at h3; simp at h3; omega
theorem tw_of {n : Nat} {b : List Int} {a2 a' : Nat} {cs : List C} (h : TermOk cs) (hn : cs.length = n) (ha : a' ≤ b.length) (hb : cs.flatMap cellB ++ b.drop a' = b.drop a2) : TW n b a2 cs a' := ⟨hn, ((right_walk _).1 h.1.1).2.2.1, fun c hc => ⟨h.1.1.2.2.2 c hc, h.2 c hc⟩, ha, hb⟩
theorem ok_of_tw {n : Nat} {b : List Int} {a2 a' : Nat} {cs : List C} (h : TW n b a2 cs a') (h1 : 1 ≤ n) (h2 : n ≤ 256) : TermOk cs := by
  obtain ⟨q1, q2, q3, q4, q5⟩ := h
  refine ⟨⟨(right_walk _).2 ⟨fun e => by rw [e] at q1; simp at q1; omega, by omega, q2, fun c hc => (q3 c hc).1⟩, fun c hc hL => ?_⟩, fun c hc => (q3 c hc).2⟩
  have := (q3 c hc).2 hL.1
  unfold nameOk at this
  have := hL.2
  omega
theorem ar_no {c : C} (hk : c.k ≠ 3) : ar c = 0 := by unfold ar partsC; rw [if_neg hk]; rfl
section
variable {b : List Int} {a id : Nat} {f : Int} {ob : Obs} {pb : Nat} (hid : id < ob.length) (hpb : pb ≤ id) (hb : ∀ c ∈ b, 0 ≤ c ∧ c < 256) (hlen : b.length ≤ 1048576)
include hid hpb hb hlen
theorem termT (bad : Bool) (ha : bad = false → a ≤ b.length) : ∃ (cs : List C) (a' : Nat) (bad' : Bool) (f' : Int), Gives env11 513 [.optr id 0] (S ob id b a bad f) pb (sl5 true 0 cs [], S ob id b a' bad' f') ∧ (bad' = false → bad = false ∧ TermW b a cs a') ∧ (bad' = true → bad = true ∨ ∀ cs a', ¬ TermW b a cs a') := by
  obtain ⟨n, a2, bad2, f2, g2, h2, k2⟩ := numberT (a := a) (f := f) hid hpb hb hlen 1 256 (by decide) bad ha
  have hn : n ≤ 256 := by
    cases bad2 with
    | false => have := (h2 rfl).2.2.1; omega
    | true => have := (k2 rfl).1; omega
  have key : ∃ r ob', (∃ (cs : List C) (a' : Nat) (bad' : Bool) (f' : Int), r = sl5 true 0 cs [] ∧ ob' = S ob id b a' bad' f' ∧ (bad' = false → bad2 = false ∧ TW n b a2 cs a') ∧ (bad' = true → bad2 = true ∨ ∀ ds a', ¬ TW n b a2 ds a')) ∧ Gives env11 513 [.optr id 0] (S ob id b a bad f) pb (r, ob') := by
    have hat := fun a' f' bad => S_at hid (v := rdO b a' bad f')
    have gf := fun (a' : Nat) (f' p : Int) => failS (b := b) (a := a') (f := f') hid hpb p
    refine gives_codeQ (f := tf513) rfl ?_
    unfold S at *
    conv => whnf
    refine ⟨_, _, g2, fun h => (nomatch h), ?_⟩
    conv => whnf
    refine loop_v (ι := List C × Int × Nat × Bool × Int) (V := fun i => [(4, sl5 true 0 i.1 []), (5, .int .i64 i.2.1)]) (O := fun i => ob.set id (rdO b i.2.2.1 i.2.2.2.1 i.2.2.2.2)) (m := fun i => n - i.1.length) (P := fun i => i.1.length ≤ n ∧ (i.2.2.2.1 = false → bad2 = false ∧ ∃ o : Nat, i.2.1 = (o : Int) ∧ Tg n b a2 i.1 i.2.2.1 o) ∧ (i.2.2.2.1 = true → bad2 = true ∨ ∀ ds a', ¬ TW n b a2 ds a')) ?_ ([], 1, a2, bad2, f2) ⟨by simp, fun h => ⟨h, 1, rfl, ⟨fun c hc => (by simp at hc), (h2 h).2.2.2.1, rfl, fun l => rfl, (by have := (h2 h).2.1; simp; omega), by simp, fun _ => by decide⟩⟩, fun h => .inl h⟩ (by show _ = _; rfl)
    rintro R ⟨cs, op, a3, bad3, f3⟩ ⟨p1, p4, p5⟩ hN hE hR
    dsimp only at p1 p4 p5
    have hlr : (cs.map C.row).length = cs.length := by simp
    have hat3 := hat a3 f3 bad3
    by_cases hk : cs.length < n
    · cases bad3 with
      | true =>
        dsimp only
        generalize hO3 : ob.set id (rdO b a3 true f3) = O3 at *
        conv => whnf
        refine sel_t (by rw [hlr]; simp; omega) ?_
        conv => whnf
        refine ⟨_, _, ⟨hat3, rfl, rfl⟩, ?_⟩
        conv => whnf
        refine hE _ _ ?_
        conv => whnf
        exact ⟨rfl, cs, a3, true, f3, rfl, hO3.symm, fun h => (nomatch h), p5⟩
      | false =>
        obtain ⟨q1, o, rfl, q3⟩ := p4 rfl
        obtain ⟨c, a4, bad4, f4, hcf, g4, h4, k4⟩ := cellT (a := a3) (f := f3) hid hpb hb hlen false (fun _ => q3.pos)
        have hat4 := hat a4 f4 bad4
        have ho := q3.more hk
        have hol := q3.le
        have hw1 : IntKind.i64.wrap ((o : Int) - 1) = (o : Int) - 1 := by rw [wrap64] <;> omega
        have hw2 : IntKind.i64.wrap ((n : Int) - ((cs.map C.row).length : Int)) = (n : Int) - cs.length := by rw [hlr, wrap64] <;> omega
        have hw3 : IntKind.i64.wrap ((n : Int) - cs.length - 1) = (n : Int) - cs.length - 1 := by rw [wrap64] <;> omega
        have happ : ((cs ++ [c]).map C.row) = cs.map C.row ++ [c.row] := by rw [List.map_append]; rfl
        have hsz : ((cs.map C.row).length + 1) * 48 ≤ 4611686018427387904 := by rw [hlr]; omega
        have hP1 : (cs ++ [c]).length ≤ n := by rw [List.length_append]; simp; omega
        have hm : n - (cs ++ [c]).length < n - cs.length := by rw [List.length_append]; simp; omega
        cases bad4 with
        | true =>
          have nowit : bad2 = true ∨ ∀ ds a', ¬ TW n b a2 ds a' := by
            refine .inr fun ds a' hW => ?_
            obtain ⟨d, tl, e, hd, h5, _⟩ := tg_wit q3 hk hW
            rcases k4 rfl with h6 | h6
            · cases h6
            · obtain ⟨v1, v2⟩ := drop_app q3.pos h5
              exact h6 d _ ⟨hd.1, hd.2, v2, by rw [← v1]; exact h5⟩
          have hN := fun x w => hN (cs ++ [c], x, a4, true, f4) w ⟨hP1, fun h => (nomatch h), fun _ => nowit⟩ hm
          dsimp only at hN ⊢
          unfold S at g4
          generalize hO3 : ob.set id (rdO b a3 false f3) = O3 at *
          generalize hO4 : ob.set id (rdO b a4 true f4) = O4 at *
          conv => whnf
          refine sel_t (by rw [hlr]; simp; omega) ?_
          conv => whnf
          refine ⟨_, _, ⟨hat3, rfl, rfl⟩, ?_⟩
          conv => whnf
          refine ⟨_, _, ⟨hat3, rfl, rfl⟩, ?_⟩
          conv => whnf
          refine ⟨_, _, g4, fun h => (nomatch h), ?_⟩
          conv => whnf
          refine sel_split (fun h => ?_) (fun h => ?_)
          · conv => whnf
            refine ⟨_, _, ⟨hat4, rfl, rfl⟩, ?_⟩
            conv => whnf
            refine ⟨(cs ++ [c]).map C.row, ⟨.inl rfl, by show ((cs.map C.row).length + 1) * 48 ≤ _; rw [hlr]; omega, happ⟩, ?_⟩
            conv => whnf
            exact hN _ _ rfl
          · conv => whnf
            refine ⟨_, _, ⟨hat4, rfl, rfl⟩, ?_⟩
            conv => whnf
            refine ⟨(cs ++ [c]).map C.row, ⟨.inl rfl, by show ((cs.map C.row).length + 1) * 48 ≤ _; rw [hlr]; omega, happ⟩, ?_⟩
            conv => whnf
            exact hN _ _ rfl
        | false =>
          have hc := (h4 rfl).2
          have hop : (if c.k = 3 then IntKind.i64.wrap ((o : Int) - 1 + c.n) else (o : Int) - 1) = ((o - 1 + ar c : Nat) : Int) := by
            by_cases h3 : c.k = 3
            · rw [if_pos h3]
              obtain ⟨v1, v2, v3⟩ := ar_fn hc.1 h3
              rw [v3, wrap64] <;> omega
            · rw [if_neg h3, ar_no h3]; omega
          have gf4 := gf a4 f4 a3
          have hNb := fun hx w => hN (cs ++ [c], ((o - 1 + ar c : Nat) : Int), a4, true, a3) w ⟨hP1, fun h => (nomatch h), fun _ => .inr fun ds a' => tg_no q3 hk hc hx ds a'⟩ hm
          have hNg := fun h1 h2 w => hN (cs ++ [c], ((o - 1 + ar c : Nat) : Int), a4, false, f4) w ⟨hP1, fun _ => ⟨q1, _, rfl, tg_next q3 hk hc h1 h2⟩, fun h => (nomatch h)⟩ hm
          dsimp only at hNb hNg ⊢
          unfold S at g4 gf4
          generalize hO3 : ob.set id (rdO b a3 false f3) = O3 at *
          generalize hO4 : ob.set id (rdO b a4 false f4) = O4 at *
          generalize hO5 : ob.set id (rdO b a4 true a3) = O5 at *
          conv => whnf
          refine sel_t (by rw [hlr]; simp; omega) ?_
          conv => whnf
          refine ⟨_, _, ⟨hat3, rfl, rfl⟩, ?_⟩
          conv => whnf
          refine ⟨_, _, ⟨hat3, rfl, rfl⟩, ?_⟩
          conv => whnf
          refine ⟨_, _, g4, fun h => (nomatch h), ?_⟩
          conv => whnf
          rw [hw1]
          refine sel_split (fun h3 => ?_) (fun h3 => ?_)
          · have h3 : c.k = 3 := by simpa using h3
            rw [if_pos h3] at hop
            conv => whnf
            rw [hop, hw2, hw3]
            refine ⟨_, _, ⟨hat4, rfl, rfl⟩, ?_⟩
            conv => whnf
            refine sel_split (fun h6 => ?_) (fun h6 => ?_)
            · have h6 := of_decide_eq_true h6
              conv => whnf
              refine ⟨_, _, gf4, fun h => (nomatch h), ?_⟩
              conv => whnf
              refine ⟨(cs ++ [c]).map C.row, ⟨.inl rfl, by show ((cs.map C.row).length + 1) * 48 ≤ _; rw [hlr]; omega, happ⟩, ?_⟩
              conv => whnf
              exact hNb (.inl (by omega)) _ rfl
            · have h6 := of_decide_eq_false h6
              conv => whnf
              refine sel_split (fun h7 => ?_) (fun h7 => ?_)
              · have h7 : ((o - 1 + ar c : Nat) : Int) = 0 := by simpa using h7
                conv => whnf
                refine sel_split (fun h8 => ?_) (fun h8 => ?_)
                · have h8 := of_decide_eq_true h8
                  conv => whnf
                  refine ⟨_, _, gf4, fun h => (nomatch h), ?_⟩
                  conv => whnf
                  refine ⟨(cs ++ [c]).map C.row, ⟨.inl rfl, by show ((cs.map C.row).length + 1) * 48 ≤ _; rw [hlr]; omega, happ⟩, ?_⟩
                  conv => whnf
                  exact hNb (.inr ⟨by omega, by omega⟩) _ rfl
                · have h8 := of_decide_eq_false h8
                  conv => whnf
                  refine ⟨(cs ++ [c]).map C.row, ⟨.inl rfl, by show ((cs.map C.row).length + 1) * 48 ≤ _; rw [hlr]; omega, happ⟩, ?_⟩
                  conv => whnf
                  exact hNg (by omega) (by omega) _ rfl
              · have h7 : ¬ ((o - 1 + ar c : Nat) : Int) = 0 := by simpa using h7
                conv => whnf
                refine ⟨(cs ++ [c]).map C.row, ⟨.inl rfl, by show ((cs.map C.row).length + 1) * 48 ≤ _; rw [hlr]; omega, happ⟩, ?_⟩
                conv => whnf
                exact hNg (by omega) (by omega) _ rfl
          · have h3 : c.k ≠ 3 := by simpa using h3
            rw [if_neg h3] at hop
            conv => whnf
            rw [hw2, hw3, hop]
            refine ⟨_, _, ⟨hat4, rfl, rfl⟩, ?_⟩
            conv => whnf
            refine sel_split (fun h6 => ?_) (fun h6 => ?_)
            · have h6 := of_decide_eq_true h6
              conv => whnf
              refine ⟨_, _, gf4, fun h => (nomatch h), ?_⟩
              conv => whnf
              refine ⟨(cs ++ [c]).map C.row, ⟨.inl rfl, by show ((cs.map C.row).length + 1) * 48 ≤ _; rw [hlr]; omega, happ⟩, ?_⟩
              conv => whnf
              exact hNb (.inl (by omega)) _ rfl
            · have h6 := of_decide_eq_false h6
              conv => whnf
              refine sel_split (fun h7 => ?_) (fun h7 => ?_)
              · have h7 : ((o - 1 + ar c : Nat) : Int) = 0 := by simpa using h7
                conv => whnf
                refine sel_split (fun h8 => ?_) (fun h8 => ?_)
                · have h8 := of_decide_eq_true h8
                  conv => whnf
                  refine ⟨_, _, gf4, fun h => (nomatch h), ?_⟩
                  conv => whnf
                  refine ⟨(cs ++ [c]).map C.row, ⟨.inl rfl, by show ((cs.map C.row).length + 1) * 48 ≤ _; rw [hlr]; omega, happ⟩, ?_⟩
                  conv => whnf
                  exact hNb (.inr ⟨by omega, by omega⟩) _ rfl
                · have h8 := of_decide_eq_false h8
                  conv => whnf
                  refine ⟨(cs ++ [c]).map C.row, ⟨.inl rfl, by show ((cs.map C.row).length + 1) * 48 ≤ _; rw [hlr]; omega, happ⟩, ?_⟩
                  conv => whnf
                  exact hNg (by omega) (by omega) _ rfl
              · have h7 : ¬ ((o - 1 + ar c : Nat) : Int) = 0 := by simpa using h7
                conv => whnf
                refine ⟨(cs ++ [c]).map C.row, ⟨.inl rfl, by show ((cs.map C.row).length + 1) * 48 ≤ _; rw [hlr]; omega, happ⟩, ?_⟩
                conv => whnf
                exact hNg (by omega) (by omega) _ rfl
    · dsimp only
      have hlen2 : cs.length = n := by omega
      generalize hO3 : ob.set id (rdO b a3 bad3 f3) = O3 at *
      conv => whnf
      refine sel_f (by rw [hlr]; simp; omega) ?_
      conv => whnf
      refine hE _ _ ?_
      conv => whnf
      refine ⟨rfl, cs, a3, bad3, f3, rfl, hO3.symm, fun h => ?_, p5⟩
      obtain ⟨q1, o, _, q3⟩ := p4 h
      refine ⟨q1, hlen2, ?_, q3.ok, q3.pos, q3.bytes⟩
      have h1 := q3.wk []
      rw [List.append_nil] at h1
      have := q3.le
      rw [h1, show o = 0 by omega]; rfl
  obtain ⟨r, ob', ⟨cs, a', bad', f', rfl, rfl, q1, q2⟩, hg⟩ := key
  have hbb : bad2 = true → bad = true ∨ ∀ cs a', ¬ TermW b a cs a' := fun h => by
    rcases (k2 h).2 with h3 | h3
    · exact .inl h3
    · by_cases hbad : bad = true
      · exact .inl hbad
      have ha := ha (by simpa using hbad)
      refine .inr fun cs a' hW => ?_
      obtain ⟨x1, x2, x3⟩ := hW
      unfold termB at x3
      rw [List.append_assoc] at x3
      obtain ⟨y1, y2⟩ := drop_app ha x3
      have := x1.1.1.2.1
      have := List.length_pos_iff.2 x1.1.1.1
      exact h3 cs.length _ ⟨by omega, by omega, y2, by rw [← y1]; exact x3⟩
  refine ⟨cs, a', bad', f', hg, fun h => ?_, fun h => ?_⟩
  · obtain ⟨q3, q4⟩ := q1 h
    have h2 := h2 q3
    refine ⟨h2.1, ok_of_tw q4 (by have := h2.2.1; omega) hn, q4.2.2.2.1, ?_⟩
    unfold termB
    rw [List.append_assoc, q4.1, q4.2.2.2.2]
    exact h2.2.2.2.2
  · rcases q2 h with q3 | q3
    · exact hbb q3
    · by_cases hb2 : bad2 = true
      · exact hbb hb2
      have h2 := h2 (by simpa using hb2)
      refine .inr fun cs a' hW => ?_
      obtain ⟨x1, x2, x3⟩ := hW
      unfold termB at x3
      rw [List.append_assoc] at x3
      have y3 := numB_inj _ _ _ _ (h2.2.2.2.2.trans x3.symm)
      exact q3 cs a' (tw_of x1 y3.1.symm x2 y3.2.symm)
end
end Tree.W11

set_option autoImplicit false
set_option linter.unusedVariables false
set_option linter.unusedSimpArgs false
set_option linter.unusedSectionVars false
namespace Tree.W11
open Go
set_option maxHeartbeats 8000000
set_option maxRecDepth 100000
section
variable {b : List Int} {a id : Nat} {f : Int} {ob : Obs} {pb : Nat} (hid : id < ob.length) (hpb : pb ≤ id) (hb : ∀ c ∈ b, 0 ≤ c ∧ c < 256) (hlen : b.length ≤ 1048576)
include hid hpb hb hlen
theorem failT (bad : Bool) (p : Int) : ∃ f' : Int, Gives env11 517 [.optr id 0, .int .i64 p] (S ob id b a bad f) pb (.tup [], S ob id b a true f') := by
  cases bad with
  | true => exact ⟨f, failB hid hpb p⟩
  | false => exact ⟨p, failS hid hpb p⟩
theorem msg_w1 {a1 a2 a3 a4 : Nat} {bad1 bad2 bad3 bad4 : Bool} {f1 f2 f3 f4 : Int} {v1 v2 w : Int} {bits : List Int} (g1 : Gives env11 515 [.optr id 0] (S ob id b a false f) pb (.int .u8 1, S ob id b a1 bad1 f1)) (g2 : Gives env11 516 [.optr id 0] (S ob id b a1 bad1 f1) pb (nm2 v1 v2, S ob id b a2 bad2 f2)) (gA : Gives env11 519 [.optr id 0] (S ob id b a2 bad2 f2) pb (.agg [.int .i64 w, zsB 0 bits []], S ob id b a3 bad3 f3)) (r : Bool) (gP : ∀ ob pb, Gives env11 510 [.agg [.int .i64 w, zsB 0 bits []]] ob pb (.bool r, ob)) : Gives env11 500 [.optr id 0] (S ob id b a false f) pb (M.lv ⟨1, v1, v2, 0, 0, [], 0, 0, w, bits⟩ 0 [] 0 [], endS ob id b a2 a3 bad3 r f3) := by
  have hat := fun a' f' bad => S_at hid (v := rdO b a' bad f')
  have hat0 := hat a f false
  have hati := hat a2 f2 bad2
  have hatj := hat a3 f3 bad3
  have gf := failS (b := b) (a := a3) (f := f3) hid hpb (a2 : Int)
  unfold endS S at *
  generalize ob.set id (rdO b a false f) = O0 at *
  generalize ob.set id (rdO b a1 bad1 f1) = O1 at *
  generalize ob.set id (rdO b a2 bad2 f2) = O2 at *
  cases bad3 with
  | true =>
    generalize ob.set id (rdO b a3 true f3) = O3 at *
    refine gives_code (f := tf500) rfl ?_
    conv => whnf
    refine ⟨_, _, ⟨hat0, rfl, rfl⟩, ?_⟩
    conv => whnf
    refine ⟨_, _, g1, fun h => (nomatch h), ?_⟩
    conv => whnf
    refine ⟨_, _, g2, fun h => (nomatch h), ?_⟩
    conv => whnf
    refine ⟨_, _, ⟨hati, rfl, rfl⟩, ?_⟩
    conv => whnf
    refine ⟨_, _, gA, fun h => (nomatch h), ?_⟩
    conv => whnf
    refine ⟨_, _, ⟨hatj, rfl, rfl⟩, ?_⟩
    conv => whnf
    exact ⟨rfl, rfl, rfl⟩
  | false =>
    generalize hO2 : ob.set id (rdO b a3 false f3) = O3 at *
    generalize hO3 : ob.set id (rdO b a3 true (a2 : Int)) = OX at *
    refine gives_code (f := tf500) rfl ?_
    conv => whnf
    refine ⟨_, _, ⟨hat0, rfl, rfl⟩, ?_⟩
    conv => whnf
    refine ⟨_, _, g1, fun h => (nomatch h), ?_⟩
    conv => whnf
    refine ⟨_, _, g2, fun h => (nomatch h), ?_⟩
    conv => whnf
    refine ⟨_, _, ⟨hati, rfl, rfl⟩, ?_⟩
    conv => whnf
    refine ⟨_, _, gA, fun h => (nomatch h), ?_⟩
    conv => whnf
    refine ⟨_, _, ⟨hatj, rfl, rfl⟩, ?_⟩
    conv => whnf
    refine ⟨_, _, gP _ _, fun _ => rfl, ?_⟩
    conv => whnf
    cases r with
    | true =>
      conv => whnf
      exact ⟨rfl, rfl, rfl⟩
    | false =>
      conv => whnf
      refine ⟨_, _, gf, fun h => (nomatch h), ?_⟩
      conv => whnf
      exact ⟨rfl, rfl, rfl⟩
theorem msg_w2 {a1 a2 a3 a4 : Nat} {bad1 bad2 bad3 bad4 : Bool} {f1 f2 f3 f4 : Int} {v1 v2 w : Int} {bits : List Int} {cs : List C} (g1 : Gives env11 515 [.optr id 0] (S ob id b a false f) pb (.int .u8 2, S ob id b a1 bad1 f1)) (g2 : Gives env11 516 [.optr id 0] (S ob id b a1 bad1 f1) pb (nm2 v1 v2, S ob id b a2 bad2 f2)) (g3 : Gives env11 513 [.optr id 0] (S ob id b a2 bad2 f2) pb (sl5 true 0 cs [], S ob id b a3 bad3 f3)) (gA : Gives env11 519 [.optr id 0] (S ob id b a3 bad3 f3) pb (.agg [.int .i64 w, zsB 0 bits []], S ob id b a4 bad4 f4)) (r : Bool) (gP : ∀ ob pb, Gives env11 510 [.agg [.int .i64 w, zsB 0 bits []]] ob pb (.bool r, ob)) : Gives env11 500 [.optr id 0] (S ob id b a false f) pb (M.lv ⟨2, v1, v2, 0, 0, cs, 0, 0, w, bits⟩ 0 [] 0 [], endS ob id b a3 a4 bad4 r f4) := by
  have hat := fun a' f' bad => S_at hid (v := rdO b a' bad f')
  have hat0 := hat a f false
  have hati := hat a3 f3 bad3
  have hatj := hat a4 f4 bad4
  have gf := failS (b := b) (a := a4) (f := f4) hid hpb (a3 : Int)
  unfold endS S at *
  generalize ob.set id (rdO b a false f) = O0 at *
  generalize ob.set id (rdO b a1 bad1 f1) = O1 at *
  generalize ob.set id (rdO b a2 bad2 f2) = O2 at *
  generalize ob.set id (rdO b a3 bad3 f3) = O3 at *
  cases bad4 with
  | true =>
    generalize ob.set id (rdO b a4 true f4) = O4 at *
    refine gives_code (f := tf500) rfl ?_
    conv => whnf
    refine ⟨_, _, ⟨hat0, rfl, rfl⟩, ?_⟩
    conv => whnf
    refine ⟨_, _, g1, fun h => (nomatch h), ?_⟩
    conv => whnf
    refine ⟨_, _, g2, fun h => (nomatch h), ?_⟩
    conv => whnf
    refine ⟨_, _, g3, fun h => (nomatch h), ?_⟩
    conv => whnf
    refine ⟨_, _, ⟨hati, rfl, rfl⟩, ?_⟩
    conv => whnf
    refine ⟨_, _, gA, fun h => (nomatch h), ?_⟩
    conv => whnf
    refine ⟨_, _, ⟨hatj, rfl, rfl⟩, ?_⟩
    conv => whnf
    exact ⟨rfl, rfl, rfl⟩
  | false =>
    generalize hO2 : ob.set id (rdO b a4 false f4) = O4 at *
    generalize hO3 : ob.set id (rdO b a4 true (a3 : Int)) = OX at *
    refine gives_code (f := tf500) rfl ?_
    conv => whnf
    refine ⟨_, _, ⟨hat0, rfl, rfl⟩, ?_⟩
    conv => whnf
    refine ⟨_, _, g1, fun h => (nomatch h), ?_⟩
    conv => whnf
    refine ⟨_, _, g2, fun h => (nomatch h), ?_⟩
    conv => whnf
    refine ⟨_, _, g3, fun h => (nomatch h), ?_⟩
    conv => whnf
    refine ⟨_, _, ⟨hati, rfl, rfl⟩, ?_⟩
    conv => whnf
    refine ⟨_, _, gA, fun h => (nomatch h), ?_⟩
    conv => whnf
    refine ⟨_, _, ⟨hatj, rfl, rfl⟩, ?_⟩
    conv => whnf
    refine ⟨_, _, gP _ _, fun _ => rfl, ?_⟩
    conv => whnf
    cases r with
    | true =>
      conv => whnf
      exact ⟨rfl, rfl, rfl⟩
    | false =>
      conv => whnf
      refine ⟨_, _, gf, fun h => (nomatch h), ?_⟩
      conv => whnf
      exact ⟨rfl, rfl, rfl⟩
theorem msg_w3 {a1 a2 a3 a4 : Nat} {bad1 bad2 bad3 bad4 : Bool} {f1 f2 f3 f4 : Int} {v1 v2 w : Int} {bits : List Int} {cs : List C} (g1 : Gives env11 515 [.optr id 0] (S ob id b a false f) pb (.int .u8 3, S ob id b a1 bad1 f1)) (g2 : Gives env11 516 [.optr id 0] (S ob id b a1 bad1 f1) pb (nm2 v1 v2, S ob id b a2 bad2 f2)) (g3 : Gives env11 513 [.optr id 0] (S ob id b a2 bad2 f2) pb (sl5 true 0 cs [], S ob id b a3 bad3 f3)) (gA : Gives env11 519 [.optr id 0] (S ob id b a3 bad3 f3) pb (.agg [.int .i64 w, zsB 0 bits []], S ob id b a4 bad4 f4)) (r : Bool) (gP : ∀ ob pb, Gives env11 510 [.agg [.int .i64 w, zsB 0 bits []]] ob pb (.bool r, ob)) : Gives env11 500 [.optr id 0] (S ob id b a false f) pb (M.lv ⟨3, 0, 0, v1, v2, cs, 0, 0, w, bits⟩ 0 [] 0 [], endS ob id b a3 a4 bad4 r f4) := by
  have hat := fun a' f' bad => S_at hid (v := rdO b a' bad f')
  have hat0 := hat a f false
  have hati := hat a3 f3 bad3
  have hatj := hat a4 f4 bad4
  have gf := failS (b := b) (a := a4) (f := f4) hid hpb (a3 : Int)
  unfold endS S at *
  generalize ob.set id (rdO b a false f) = O0 at *
  generalize ob.set id (rdO b a1 bad1 f1) = O1 at *
  generalize ob.set id (rdO b a2 bad2 f2) = O2 at *
  generalize ob.set id (rdO b a3 bad3 f3) = O3 at *
  cases bad4 with
  | true =>
    generalize ob.set id (rdO b a4 true f4) = O4 at *
    refine gives_code (f := tf500) rfl ?_
    conv => whnf
    refine ⟨_, _, ⟨hat0, rfl, rfl⟩, ?_⟩
    conv => whnf
    refine ⟨_, _, g1, fun h => (nomatch h), ?_⟩
    conv => whnf
    refine ⟨_, _, g2, fun h => (nomatch h), ?_⟩
    conv => whnf
    refine ⟨_, _, g3, fun h => (nomatch h), ?_⟩
    conv => whnf
    refine ⟨_, _, ⟨hati, rfl, rfl⟩, ?_⟩
    conv => whnf
    refine ⟨_, _, gA, fun h => (nomatch h), ?_⟩
    conv => whnf
    refine ⟨_, _, ⟨hatj, rfl, rfl⟩, ?_⟩
    conv => whnf
    exact ⟨rfl, rfl, rfl⟩
  | false =>
    generalize hO2 : ob.set id (rdO b a4 false f4) = O4 at *
    generalize hO3 : ob.set id (rdO b a4 true (a3 : Int)) = OX at *
    refine gives_code (f := tf500) rfl ?_
    conv => whnf
    refine ⟨_, _, ⟨hat0, rfl, rfl⟩, ?_⟩
    conv => whnf
    refine ⟨_, _, g1, fun h => (nomatch h), ?_⟩
    conv => whnf
    refine ⟨_, _, g2, fun h => (nomatch h), ?_⟩
    conv => whnf
    refine ⟨_, _, g3, fun h => (nomatch h), ?_⟩
    conv => whnf
    refine ⟨_, _, ⟨hati, rfl, rfl⟩, ?_⟩
    conv => whnf
    refine ⟨_, _, gA, fun h => (nomatch h), ?_⟩
    conv => whnf
    refine ⟨_, _, ⟨hatj, rfl, rfl⟩, ?_⟩
    conv => whnf
    refine ⟨_, _, gP _ _, fun _ => rfl, ?_⟩
    conv => whnf
    cases r with
    | true =>
      conv => whnf
      exact ⟨rfl, rfl, rfl⟩
    | false =>
      conv => whnf
      refine ⟨_, _, gf, fun h => (nomatch h), ?_⟩
      conv => whnf
      exact ⟨rfl, rfl, rfl⟩
theorem msg_w4 {a1 a2 a3 a4 : Nat} {bad1 bad2 bad3 bad4 : Bool} {f1 f2 f3 f4 : Int} {v1 v2 n : Int} (g1 : Gives env11 515 [.optr id 0] (S ob id b a false f) pb (.int .u8 4, S ob id b a1 bad1 f1)) (g2 : Gives env11 516 [.optr id 0] (S ob id b a1 bad1 f1) pb (nm2 v1 v2, S ob id b a2 bad2 f2)) (g3 : Gives env11 518 [.optr id 0, .int .i64 0, .int .i64 3] (S ob id b a2 bad2 f2) pb (.int .i64 n, S ob id b a3 bad3 f3)) : Gives env11 500 [.optr id 0] (S ob id b a false f) pb (M.lv ⟨4, v1, v2, 0, 0, [], n, 0, 0, []⟩ 0 [] 0 [], S ob id b a3 bad3 f3) := by
  have hat := fun a' f' bad => S_at hid (v := rdO b a' bad f')
  have hat0 := hat a f false
  unfold S at *
  generalize ob.set id (rdO b a false f) = O0 at *
  generalize ob.set id (rdO b a1 bad1 f1) = O1 at *
  generalize ob.set id (rdO b a2 bad2 f2) = O2 at *
  generalize ob.set id (rdO b a3 bad3 f3) = O3 at *
  refine gives_code (f := tf500) rfl ?_
  conv => whnf
  refine ⟨_, _, ⟨hat0, rfl, rfl⟩, ?_⟩
  conv => whnf
  refine ⟨_, _, g1, fun h => (nomatch h), ?_⟩
  conv => whnf
  refine ⟨_, _, g2, fun h => (nomatch h), ?_⟩
  conv => whnf
  refine ⟨_, _, g3, fun h => (nomatch h), ?_⟩
  conv => whnf
  exact ⟨rfl, rfl, rfl⟩
theorem msg_w5 {a1 a2 a3 a4 : Nat} {bad1 bad2 bad3 bad4 : Bool} {f1 f2 f3 f4 : Int} {v1 v2 n : Int} (g1 : Gives env11 515 [.optr id 0] (S ob id b a false f) pb (.int .u8 5, S ob id b a1 bad1 f1)) (g2 : Gives env11 516 [.optr id 0] (S ob id b a1 bad1 f1) pb (nm2 v1 v2, S ob id b a2 bad2 f2)) (g3 : Gives env11 518 [.optr id 0, .int .i64 1, .int .i64 2147483647] (S ob id b a2 bad2 f2) pb (.int .i64 n, S ob id b a3 bad3 f3)) : Gives env11 500 [.optr id 0] (S ob id b a false f) pb (M.lv ⟨5, v1, v2, 0, 0, [], n, 0, 0, []⟩ 0 [] 0 [], S ob id b a3 bad3 f3) := by
  have hat := fun a' f' bad => S_at hid (v := rdO b a' bad f')
  have hat0 := hat a f false
  unfold S at *
  generalize ob.set id (rdO b a false f) = O0 at *
  generalize ob.set id (rdO b a1 bad1 f1) = O1 at *
  generalize ob.set id (rdO b a2 bad2 f2) = O2 at *
  generalize ob.set id (rdO b a3 bad3 f3) = O3 at *
  refine gives_code (f := tf500) rfl ?_
  conv => whnf
  refine ⟨_, _, ⟨hat0, rfl, rfl⟩, ?_⟩
  conv => whnf
  refine ⟨_, _, g1, fun h => (nomatch h), ?_⟩
  conv => whnf
  refine ⟨_, _, g2, fun h => (nomatch h), ?_⟩
  conv => whnf
  refine ⟨_, _, g3, fun h => (nomatch h), ?_⟩
  conv => whnf
  exact ⟨rfl, rfl, rfl⟩
theorem msg_w6 {a1 a2 a3 a4 : Nat} {bad1 bad2 bad3 bad4 : Bool} {f1 f2 f3 f4 : Int} {n l w : Int} {bits : List Int} (g1 : Gives env11 515 [.optr id 0] (S ob id b a false f) pb (.int .u8 6, S ob id b a1 bad1 f1)) (g2 : Gives env11 518 [.optr id 0, .int .i64 0, .int .i64 2147483647] (S ob id b a1 bad1 f1) pb (.int .i64 n, S ob id b a2 bad2 f2)) (g3 : Gives env11 518 [.optr id 0, .int .i64 0, .int .i64 3] (S ob id b a2 bad2 f2) pb (.int .i64 l, S ob id b a3 bad3 f3)) (gA : Gives env11 519 [.optr id 0] (S ob id b a3 bad3 f3) pb (.agg [.int .i64 w, zsB 0 bits []], S ob id b a4 bad4 f4)) (r : Bool) (gP : ∀ ob pb, Gives env11 510 [.agg [.int .i64 w, zsB 0 bits []]] ob pb (.bool r, ob)) : Gives env11 500 [.optr id 0] (S ob id b a false f) pb (M.lv ⟨6, 0, 0, 0, 0, [], n, l, w, bits⟩ 0 [] 0 [], endS ob id b a3 a4 bad4 r f4) := by
  have hat := fun a' f' bad => S_at hid (v := rdO b a' bad f')
  have hat0 := hat a f false
  have hati := hat a3 f3 bad3
  have hatj := hat a4 f4 bad4
  have gf := failS (b := b) (a := a4) (f := f4) hid hpb (a3 : Int)
  unfold endS S at *
  generalize ob.set id (rdO b a false f) = O0 at *
  generalize ob.set id (rdO b a1 bad1 f1) = O1 at *
  generalize ob.set id (rdO b a2 bad2 f2) = O2 at *
  generalize ob.set id (rdO b a3 bad3 f3) = O3 at *
  cases bad4 with
  | true =>
    generalize ob.set id (rdO b a4 true f4) = O4 at *
    refine gives_code (f := tf500) rfl ?_
    conv => whnf
    refine ⟨_, _, ⟨hat0, rfl, rfl⟩, ?_⟩
    conv => whnf
    refine ⟨_, _, g1, fun h => (nomatch h), ?_⟩
    conv => whnf
    refine ⟨_, _, g2, fun h => (nomatch h), ?_⟩
    conv => whnf
    refine ⟨_, _, g3, fun h => (nomatch h), ?_⟩
    conv => whnf
    refine ⟨_, _, ⟨hati, rfl, rfl⟩, ?_⟩
    conv => whnf
    refine ⟨_, _, gA, fun h => (nomatch h), ?_⟩
    conv => whnf
    refine ⟨_, _, ⟨hatj, rfl, rfl⟩, ?_⟩
    conv => whnf
    exact ⟨rfl, rfl, rfl⟩
  | false =>
    generalize hO2 : ob.set id (rdO b a4 false f4) = O4 at *
    generalize hO3 : ob.set id (rdO b a4 true (a3 : Int)) = OX at *
    refine gives_code (f := tf500) rfl ?_
    conv => whnf
    refine ⟨_, _, ⟨hat0, rfl, rfl⟩, ?_⟩
    conv => whnf
    refine ⟨_, _, g1, fun h => (nomatch h), ?_⟩
    conv => whnf
    refine ⟨_, _, g2, fun h => (nomatch h), ?_⟩
    conv => whnf
    refine ⟨_, _, g3, fun h => (nomatch h), ?_⟩
    conv => whnf
    refine ⟨_, _, ⟨hati, rfl, rfl⟩, ?_⟩
    conv => whnf
    refine ⟨_, _, gA, fun h => (nomatch h), ?_⟩
    conv => whnf
    refine ⟨_, _, ⟨hatj, rfl, rfl⟩, ?_⟩
    conv => whnf
    refine ⟨_, _, gP _ _, fun _ => rfl, ?_⟩
    conv => whnf
    cases r with
    | true =>
      conv => whnf
      exact ⟨rfl, rfl, rfl⟩
    | false =>
      conv => whnf
      refine ⟨_, _, gf, fun h => (nomatch h), ?_⟩
      conv => whnf
      exact ⟨rfl, rfl, rfl⟩
theorem msg_w0 {a1 a2 a3 a4 : Nat} {bad1 bad2 bad3 bad4 : Bool} {f1 f2 f3 f4 : Int} {k w : Int} {bits : List Int} (hk : k ≠ 1 ∧ k ≠ 2 ∧ k ≠ 3 ∧ k ≠ 4 ∧ k ≠ 5 ∧ k ≠ 6) (g1 : Gives env11 515 [.optr id 0] (S ob id b a false f) pb (.int .u8 k, S ob id b a1 bad1 f1)) (gF : Gives env11 517 [.optr id 0, .int .i64 a] (S ob id b a1 bad1 f1) pb (.tup [], S ob id b a2 bad2 f2)) (gA : Gives env11 519 [.optr id 0] (S ob id b a2 bad2 f2) pb (.agg [.int .i64 w, zsB 0 bits []], S ob id b a3 bad3 f3)) (r : Bool) (gP : ∀ ob pb, Gives env11 510 [.agg [.int .i64 w, zsB 0 bits []]] ob pb (.bool r, ob)) : Gives env11 500 [.optr id 0] (S ob id b a false f) pb (M.lv ⟨k, 0, 0, 0, 0, [], 0, 0, w, bits⟩ 0 [] 0 [], endS ob id b a2 a3 bad3 r f3) := by
  have hat := fun a' f' bad => S_at hid (v := rdO b a' bad f')
  have hat0 := hat a f false
  have hati := hat a2 f2 bad2
  have hatj := hat a3 f3 bad3
  have gf := failS (b := b) (a := a3) (f := f3) hid hpb (a2 : Int)
  unfold endS S at *
  generalize ob.set id (rdO b a false f) = O0 at *
  generalize ob.set id (rdO b a1 bad1 f1) = O1 at *
  generalize ob.set id (rdO b a2 bad2 f2) = O2 at *
  cases bad3 with
  | true =>
    generalize ob.set id (rdO b a3 true f3) = O3 at *
    refine gives_code (f := tf500) rfl ?_
    conv => whnf
    refine ⟨_, _, ⟨hat0, rfl, rfl⟩, ?_⟩
    conv => whnf
    refine ⟨_, _, g1, fun h => (nomatch h), ?_⟩
    conv => whnf
    refine sel_f (by simp [hk.1]) ?_
    conv => whnf
    refine sel_f (by simp [hk.2.1]) ?_
    conv => whnf
    refine sel_f (by simp [hk.2.2.2.1]) ?_
    conv => whnf
    refine sel_f (by simp [hk.2.2.2.2.1]) ?_
    conv => whnf
    refine sel_f (by simp [hk.2.2.1]) ?_
    conv => whnf
    refine sel_f (by simp [hk.2.2.2.2.2]) ?_
    conv => whnf
    refine ⟨_, _, gF, fun h => (nomatch h), ?_⟩
    conv => whnf
    refine sel_f (by simp [hk.2.1]) ?_
    conv => whnf
    refine sel_f (by simp [hk.2.2.1]) ?_
    conv => whnf
    refine sel_f (by simp [hk.2.2.2.1]) ?_
    conv => whnf
    refine sel_f (by simp [hk.2.2.2.2.1]) ?_
    conv => whnf
    refine sel_f (by simp [hk.2.2.2.2.2]) ?_
    conv => whnf
    refine sel_f (by simp [hk.2.2.2.1]) ?_
    conv => whnf
    refine sel_f (by simp [hk.2.2.2.2.1]) ?_
    conv => whnf
    refine ⟨_, _, ⟨hati, rfl, rfl⟩, ?_⟩
    conv => whnf
    refine ⟨_, _, gA, fun h => (nomatch h), ?_⟩
    conv => whnf
    refine ⟨_, _, ⟨hatj, rfl, rfl⟩, ?_⟩
    conv => whnf
    exact ⟨rfl, rfl, rfl⟩
  | false =>
    generalize hO2 : ob.set id (rdO b a3 false f3) = O3 at *
    generalize hO3 : ob.set id (rdO b a3 true (a2 : Int)) = OX at *
    refine gives_code (f := tf500) rfl ?_
    conv => whnf
    refine ⟨_, _, ⟨hat0, rfl, rfl⟩, ?_⟩
    conv => whnf
    refine ⟨_, _, g1, fun h => (nomatch h), ?_⟩
    conv => whnf
    refine sel_f (by simp [hk.1]) ?_
    conv => whnf
    refine sel_f (by simp [hk.2.1]) ?_
    conv => whnf
    refine sel_f (by simp [hk.2.2.2.1]) ?_
    conv => whnf
    refine sel_f (by simp [hk.2.2.2.2.1]) ?_
    conv => whnf
    refine sel_f (by simp [hk.2.2.1]) ?_
    conv => whnf
    refine sel_f (by simp [hk.2.2.2.2.2]) ?_
    conv => whnf
    refine ⟨_, _, gF, fun h => (nomatch h), ?_⟩
    conv => whnf
    refine sel_f (by simp [hk.2.1]) ?_
    conv => whnf
    refine sel_f (by simp [hk.2.2.1]) ?_
    conv => whnf
    refine sel_f (by simp [hk.2.2.2.1]) ?_
    conv => whnf
    refine sel_f (by simp [hk.2.2.2.2.1]) ?_
    conv => whnf
    refine sel_f (by simp [hk.2.2.2.2.2]) ?_
    conv => whnf
    refine sel_f (by simp [hk.2.2.2.1]) ?_
    conv => whnf
    refine sel_f (by simp [hk.2.2.2.2.1]) ?_
    conv => whnf
    refine ⟨_, _, ⟨hati, rfl, rfl⟩, ?_⟩
    conv => whnf
    refine ⟨_, _, gA, fun h => (nomatch h), ?_⟩
    conv => whnf
    refine ⟨_, _, ⟨hatj, rfl, rfl⟩, ?_⟩
    conv => whnf
    refine ⟨_, _, gP _ _, fun _ => rfl, ?_⟩
    conv => whnf
    cases r with
    | true =>
      conv => whnf
      exact ⟨rfl, rfl, rfl⟩
    | false =>
      conv => whnf
      refine ⟨_, _, gf, fun h => (nomatch h), ?_⟩
      conv => whnf
      exact ⟨rfl, rfl, rfl⟩
end
end Tree.W11
