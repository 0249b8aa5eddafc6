/- Layer 11: a reader goes through bytes: fail, one. -/
import Derived.Test.YtkdccglaeegdaaaDoorL11G1
import Derived.Test.YtkdccglaeegdaaaDoorLJ1
import Derived.Test.YtkdccglaeegdaaaDoorTW
import Derived.Test.YtkdccglaeegdaaaDoorL11D0
set_option autoImplicit false
set_option linter.unusedVariables false
set_option linter.unusedSimpArgs false
set_option linter.unusedSectionVars false
namespace Tree.W11
open Go
set_option maxHeartbeats 8000000
set_option maxRecDepth 100000
/-- A reader as an object. -/
def rdO (b : List Int) (a : Nat) (bad : Bool) (f : Int) : List LV := [.sl false 0 1 (b.map brw) [], .int .i64 a, .bool bad, .int .i64 f]
theorem brw_get {l : List Int} {i : Nat} {c : Int} (h : l[i]? = some c) : (l.map brw)[((i : Nat) : Int).toNat]? = some [.int .u8 c] := by
  show (l.map brw)[i]? = _
  rw [List.getElem?_map, h]; rfl
section
variable {b : List Int} {a id : Nat} {f : Int} {ob : Obs} {pb : Nat}
theorem fail_ok (p : Int) (hpb : pb ≤ id) (hob : ob[id]? = some (rdO b a false f)) : Gives env11 517 [.optr id 0, .int .i64 p] ob pb (.tup [], ob.set id (rdO b a true p)) := by
  have hid : id < ob.length := (List.getElem?_eq_some_iff.1 hob).1
  have hg1 : ∀ c : List LV, (ob.set id c)[id]? = some c := fun c => List.getElem?_set_self hid
  unfold rdO at hob ⊢
  generalize b.map brw = B at *
  refine gives_code (f := tf517) rfl ?_
  conv => whnf
  refine ⟨_, _, ⟨hob, rfl, rfl⟩, ?_⟩
  conv => whnf
  refine ⟨_, _, ⟨hpb, hob, rfl, rfl⟩, ?_⟩
  conv => whnf
  refine ⟨_, _, ⟨hpb, hg1 _, rfl, rfl⟩, ?_⟩
  conv => whnf
  refine ⟨rfl, rfl, ?_⟩
  show _ = _
  rw [List.set_set]; rfl
theorem fail_bad (p : Int) (hob : ob[id]? = some (rdO b a true f)) : Gives env11 517 [.optr id 0, .int .i64 p] ob pb (.tup [], ob) := by
  unfold rdO at hob
  generalize b.map brw = B at *
  refine gives_code (f := tf517) rfl ?_
  conv => whnf
  refine ⟨_, _, ⟨hob, rfl, rfl⟩, ?_⟩
  conv => whnf
  exact ⟨rfl, rfl, rfl⟩
theorem oneR_ok {c : Int} (hc : b[a]? = some c) (hlen : b.length ≤ 1099511627776) (hpb : pb ≤ id) (hob : ob[id]? = some (rdO b a false f)) : Gives env11 515 [.optr id 0] ob pb (.int .u8 c, ob.set id (rdO b (a + 1) false f)) := by
  have hid : id < ob.length := (List.getElem?_eq_some_iff.1 hob).1
  have hg1 : ∀ c : List LV, (ob.set id c)[id]? = some c := fun c => List.getElem?_set_self hid
  have ha := (List.getElem?_eq_some_iff.1 hc).1
  have hrow := brw_get hc
  have hbl : (b.map brw).length = b.length := by simp
  have e1 : IntKind.i64.wrap ((a : Int) + 1) = ((a + 1 : Nat) : Int) := by rw [wrap64] <;> omega
  have e2 : IntKind.i64.wrap (((a + 1 : Nat) : Int) - 1) = (a : Int) := by rw [wrap64] <;> omega
  unfold rdO at hob ⊢
  generalize b.map brw = B at *
  refine gives_code (f := tf515) rfl ?_
  conv => whnf
  refine ⟨_, _, ⟨hob, rfl, rfl⟩, ?_⟩
  conv => whnf
  refine ⟨_, _, ⟨hob, rfl, rfl⟩, ?_⟩
  conv => whnf
  refine ⟨_, _, ⟨hob, rfl, rfl⟩, ?_⟩
  conv => whnf
  refine sel_f (by rw [hbl]; simp; omega) ?_
  conv => whnf
  refine ⟨_, _, ⟨hob, rfl, rfl⟩, ?_⟩
  conv => whnf
  rw [e1]
  refine ⟨_, _, ⟨hpb, hob, rfl, rfl⟩, ?_⟩
  conv => whnf
  refine ⟨_, _, ⟨hg1 _, rfl, rfl⟩, ?_⟩
  conv => whnf
  refine ⟨_, _, ⟨hg1 _, rfl, rfl⟩, ?_⟩
  conv => whnf
  rw [e2]
  refine ⟨_, ⟨by omega, hrow⟩, ?_⟩
  conv => whnf
  exact ⟨rfl, rfl, rfl⟩
theorem one_end (ha : a = b.length) (hlen : b.length ≤ 1099511627776) (hpb : pb ≤ id) (hob : ob[id]? = some (rdO b a false f)) : Gives env11 515 [.optr id 0] ob pb (.int .u8 0, ob.set id (rdO b a true a)) := by
  have hbl : (b.map brw).length = b.length := by simp
  have gf := fail_ok (pb := pb) (a : Int) hpb hob
  unfold rdO at hob gf ⊢
  generalize b.map brw = B at *
  refine gives_code (f := tf515) rfl ?_
  conv => whnf
  refine ⟨_, _, ⟨hob, rfl, rfl⟩, ?_⟩
  conv => whnf
  refine ⟨_, _, ⟨hob, rfl, rfl⟩, ?_⟩
  conv => whnf
  refine ⟨_, _, ⟨hob, rfl, rfl⟩, ?_⟩
  conv => whnf
  refine sel_t (by rw [hbl]; simp; omega) ?_
  conv => whnf
  refine ⟨_, _, ⟨hob, rfl, rfl⟩, ?_⟩
  conv => whnf
  refine ⟨_, _, gf, fun h => (nomatch h), ?_⟩
  conv => whnf
  exact ⟨rfl, rfl, rfl⟩
theorem one_bad (hob : ob[id]? = some (rdO b a true f)) : Gives env11 515 [.optr id 0] ob pb (.int .u8 0, ob) := by
  unfold rdO at hob
  generalize b.map brw = B at *
  refine gives_code (f := tf515) rfl ?_
  conv => whnf
  refine ⟨_, _, ⟨hob, rfl, rfl⟩, ?_⟩
  conv => whnf
  exact ⟨rfl, rfl, rfl⟩
end
theorem and127 (c : Int) (h : 0 ≤ c ∧ c < 256) : IntKind.u8.wrap (BitVec.ofInt IntKind.u8.bits c &&& BitVec.ofInt IntKind.u8.bits 127).toNat = c % 128 := by
  have key : ∀ b : Fin 256, IntKind.u8.wrap (BitVec.ofInt IntKind.u8.bits ((b : Nat) : Int) &&& BitVec.ofInt IntKind.u8.bits 127).toNat = (((b : Nat) % 128 : Nat) : Int) := by decide +kernel
  have := key ⟨c.toNat, by omega⟩
  have e : ((c.toNat : Nat) : Int) = c := by omega
  dsimp only at this
  rw [e] at this
  rw [this]; omega
theorem or_shift (acc d s : Nat) (h : acc < 2 ^ s) (hd : d < 128) (hs : s ≤ 42) : IntKind.i64.wrap ((BitVec.ofInt IntKind.i64.bits (acc : Int) ||| BitVec.ofInt IntKind.i64.bits (IntKind.i64.wrap ((d : Int) * 2 ^ min ((s : Nat) : Int).toNat IntKind.i64.bits))).toNat : Int) = ((acc + d * 2 ^ s : Nat) : Int) := by
  have h1 : (2 : Nat) ^ s ≤ 4398046511104 := Nat.pow_le_pow_right (n := 2) (by decide) hs
  have hm : min ((s : Nat) : Int).toNat IntKind.i64.bits = s := by
    have e : IntKind.i64.bits = 64 := rfl
    rw [e]; omega
  have hp : ((d : Int) * 2 ^ s) = ((d * 2 ^ s : Nat) : Int) := by push_cast; rfl
  have hd2 : d * 2 ^ s ≤ 127 * 4398046511104 := Nat.mul_le_mul (by omega) h1
  have hor := J14.or_add d s acc h
  rw [hm, hp]
  generalize d * 2 ^ s = z at *
  generalize 2 ^ s = p at *
  have e : ∀ z : Nat, z < 18446744073709551616 → (BitVec.ofInt IntKind.i64.bits (z : Int)).toNat = z := fun z hz => by
    show (BitVec.ofInt 64 (z : Int)).toNat = z
    rw [BitVec.toNat_ofInt]; omega
  have e2 : ((z + acc : Nat) : Int) = ((acc + z : Nat) : Int) := by rw [Nat.add_comm]
  have ez : IntKind.i64.wrap (z : Int) = z := wrap64 (by omega) (by omega)
  rw [ez, BitVec.toNat_or, e acc (by omega), e z (by omega), Nat.or_comm, hor, e2, wrap64 (by omega) (by omega)]
abbrev S (ob : Obs) (id : Nat) (b : List Int) (a : Nat) (bad : Bool) (f : Int) : Obs := ob.set id (rdO b a bad f)
theorem S_at {ob : Obs} {id : Nat} (hid : id < ob.length) {v : List LV} : (ob.set id v)[id]? = some v := List.getElem?_set_self hid
section
variable {b : List Int} {a id : Nat} {f : Int} {ob : Obs} {pb : Nat} (hid : id < ob.length) (hpb : pb ≤ id)
include hid hpb
theorem failS (p : Int) : Gives env11 517 [.optr id 0, .int .i64 p] (S ob id b a false f) pb (.tup [], S ob id b a true p) := by
  have h := fail_ok (pb := pb) p hpb (S_at hid (v := rdO b a false f))
  rwa [List.set_set] at h
theorem failB (p : Int) : Gives env11 517 [.optr id 0, .int .i64 p] (S ob id b a true f) pb (.tup [], S ob id b a true f) := fail_bad p (S_at hid)
theorem oneS {c : Int} (hc : b[a]? = some c) (hlen : b.length ≤ 1099511627776) : Gives env11 515 [.optr id 0] (S ob id b a false f) pb (.int .u8 c, S ob id b (a + 1) false f) := by
  have h := oneR_ok (pb := pb) hc hlen hpb (S_at hid (v := rdO b a false f))
  rwa [List.set_set] at h
theorem oneE (ha : a = b.length) (hlen : b.length ≤ 1099511627776) : Gives env11 515 [.optr id 0] (S ob id b a false f) pb (.int .u8 0, S ob id b a true a) := by
  have h := one_end (pb := pb) ha hlen hpb (S_at hid (v := rdO b a false f))
  rwa [List.set_set] at h
theorem oneB : Gives env11 515 [.optr id 0] (S ob id b a true f) pb (.int .u8 0, S ob id b a true f) := one_bad (S_at hid)
end
theorem drop_at {b : List Int} {a j : Nat} {c : Int} (h : b[a + j]? = some c) : b.drop (a + j) = c :: b.drop (a + j + 1) := by
  have h2 := (List.getElem?_eq_some_iff.1 h)
  obtain ⟨h3, h4⟩ := h2
  rw [List.drop_eq_getElem_cons h3, h4]
structure Nv (b : List Int) (a j acc : Nat) : Prop where
  pos : a + j ≤ b.length
  lt : acc < 128 ^ j
  fw : ∀ m, j = 0 ∨ 0 < m → numB (acc + m * 128 ^ j) = (b.drop a).take j ++ numB m
  bk : ∀ n r, numB n ++ r = b.drop a → ∃ m, (j = 0 ∨ 0 < m) ∧ n = acc + m * 128 ^ j ∧ numB m ++ r = b.drop (a + j)
theorem nv_zero {b : List Int} {a : Nat} (ha : a ≤ b.length) : Nv b a 0 0 := ⟨by omega, by simp, fun m _ => by simp, fun n r h => ⟨n, .inl rfl, by simp, by simpa using h⟩⟩
theorem numB_ne (n : Nat) : ∃ c l, numB n = c :: l ∧ c % 128 = ((n % 128 : Nat) : Int) ∧ (n < 128 → c = n ∧ l = []) ∧ (¬ n < 128 → c = ((n % 128 + 128 : Nat) : Int) ∧ l = numB (n / 128)) := by
  by_cases h : n < 128
  · rw [numB_lt h]; exact ⟨_, _, rfl, by omega, fun _ => ⟨rfl, rfl⟩, fun h2 => absurd h h2⟩
  · rw [numB_ge h]; exact ⟨_, _, rfl, by omega, fun h2 => absurd h2 h, fun _ => ⟨rfl, rfl⟩⟩
section
variable {b : List Int} {a j acc : Nat} (h : Nv b a j acc)
include h
theorem nv_end (he : a + j = b.length) (n : Nat) (r : List Int) (hn : numB n ++ r = b.drop a) : False := by
  obtain ⟨m, _, _, h3⟩ := h.bk n r hn
  rw [he, List.drop_length] at h3
  obtain ⟨c, l, e, _⟩ := numB_ne m
  rw [e] at h3; cases h3
theorem nv_take {c : Int} (hc : b[a + j]? = some c) : (b.drop a).take (j + 1) = (b.drop a).take j ++ [c] := by
  have h3 : (b.drop a)[j]? = some c := by rw [List.getElem?_drop]; exact hc
  obtain ⟨h4, h5⟩ := List.getElem?_eq_some_iff.1 h3
  rw [List.take_add_one, h3]; rfl
theorem nv_last {c : Int} (hc : b[a + j]? = some c) (h0 : 0 ≤ c) (hc1 : c < 128) (hp : j = 0 ∨ 0 < c) : numB (acc + c.toNat * 128 ^ j) ++ b.drop (a + j + 1) = b.drop a := by
  rw [h.fw c.toNat (by omega), numB_lt (by omega), show ((c.toNat : Nat) : Int) = c by omega, ← nv_take h hc, Nat.add_assoc, ← List.drop_drop]
  exact List.take_append_drop _ _
theorem nv_wit {c : Int} (hc : b[a + j]? = some c) {n : Nat} {r : List Int} (hn : numB n ++ r = b.drop a) : ¬ (c = 0 ∧ 0 < j) ∧ acc + (c % 128).toNat * 128 ^ j ≤ n := by
  obtain ⟨m, h1, h2, h3⟩ := h.bk n r hn
  rw [drop_at hc] at h3
  obtain ⟨c2, l, e, e1, e2, e3⟩ := numB_ne m
  rw [e] at h3
  obtain ⟨h4, h5⟩ := List.cons.inj h3
  subst h4
  refine ⟨fun hz => ?_, ?_⟩
  · by_cases hm : m < 128
    · have := (e2 hm).1; omega
    · have := (e3 hm).1; omega
  · rw [e1, h2]
    have : (((m % 128 : Nat) : Int)).toNat = m % 128 := by omega
    rw [this]
    exact Nat.add_le_add_left (Nat.mul_le_mul_right _ (Nat.mod_le _ _)) _
theorem nv_next {c : Int} (hc : b[a + j]? = some c) (hc1 : 128 ≤ c) (hc2 : c < 256) : Nv b a (j + 1) (acc + (c % 128).toNat * 128 ^ j) := by
  have hlt := h.lt
  have hp := (List.getElem?_eq_some_iff.1 hc).1
  have hd : (c % 128).toNat < 128 := by omega
  generalize hD : (c % 128).toNat = d at *
  have hdc : c = ((d + 128 : Nat) : Int) := by omega
  have e : ∀ m, acc + d * 128 ^ j + m * 128 ^ (j + 1) = acc + (d + 128 * m) * 128 ^ j := fun m => by rw [Nat.pow_succ]; grind
  refine ⟨by omega, ?_, fun m hm => ?_, fun n r hn => ?_⟩
  · have h1 : d * 128 ^ j ≤ 127 * 128 ^ j := Nat.mul_le_mul_right _ (by omega)
    rw [Nat.pow_succ]; omega
  · have hm : 0 < m := by omega
    rw [e, h.fw _ (by omega), nv_take h hc, numB_ge (by omega), List.append_assoc]
    have e1 : (d + 128 * m) % 128 = d := by omega
    have e2 : (d + 128 * m) / 128 = m := by omega
    rw [e1, e2, hdc]; rfl
  · obtain ⟨m, h1, h2, h3⟩ := h.bk n r hn
    rw [drop_at hc] at h3
    obtain ⟨c2, l, e0, e1, e2, e3⟩ := numB_ne m
    rw [e0] at h3
    obtain ⟨h4, h5⟩ := List.cons.inj h3
    by_cases hm : m < 128
    · have := (e2 hm).1; omega
    · have h6 := e3 hm
      refine ⟨m / 128, .inr (by omega), ?_, by rw [← h6.2]; exact h5⟩
      rw [e, h2]
      have : d + 128 * (m / 128) = m := by omega
      rw [this]
end
end Tree.W11

set_option autoImplicit false
set_option linter.unusedVariables false
set_option linter.unusedSimpArgs false
set_option linter.unusedSectionVars false
namespace Tree.W11
open Go
set_option maxHeartbeats 8000000
set_option maxRecDepth 100000
def NumP (lo hi : Int) (b : List Int) (a n a' : Nat) : Prop := lo ≤ n ∧ (n : Int) ≤ hi ∧ a' ≤ b.length ∧ numB n ++ b.drop a' = b.drop a
section
variable {b : List Int} {a id : Nat} {f : Int} {ob : Obs} {pb : Nat} (hid : id < ob.length) (hpb : pb ≤ id)
include hid hpb
theorem numberB (lo hi : Int) : Gives env11 518 [.optr id 0, .int .i64 lo, .int .i64 hi] (S ob id b a true f) pb (.int .i64 0, S ob id b a true f) := by
  have g1 := oneB (b := b) (a := a) (f := f) hid hpb
  have hat := S_at hid (v := rdO b a true f)
  unfold S at *
  generalize hO : ob.set id (rdO b a true f) = O at *
  unfold rdO at hat
  generalize b.map brw = B at *
  refine gives_code (f := tf518) rfl ?_
  conv => whnf
  refine ⟨_, _, ⟨hat, rfl, rfl⟩, ?_⟩
  conv => whnf
  refine loop_v (V := fun i : Unit => [(8, .int .i64 0), (9, .int .i64 0)]) (O := fun i => O) (m := fun i => 0) (P := fun i => True) ?_ () trivial (by show _ = _; rfl)
  rintro R ⟨⟩ - hN hE hR
  conv => whnf
  refine ⟨_, _, g1, fun h => (nomatch h), ?_⟩
  conv => whnf
  refine ⟨_, _, ⟨hat, rfl, rfl⟩, ?_⟩
  conv => whnf
  refine hR _ ?_
  conv => whnf
  exact ⟨rfl, rfl, rfl⟩
variable (hb : ∀ c ∈ b, 0 ≤ c ∧ c < 256) (hlen : b.length ≤ 1048576)
include hb hlen
theorem numberS (lo hi : Int) (hhi : hi ≤ 1099511627776) (ha : a ≤ b.length) : (∃ n a', NumP lo hi b a n a' ∧ Gives env11 518 [.optr id 0, .int .i64 lo, .int .i64 hi] (S ob id b a false f) pb (.int .i64 n, S ob id b a' false f)) ∨ ((∀ n a', ¬ NumP lo hi b a n a') ∧ ∃ a' f', Gives env11 518 [.optr id 0, .int .i64 lo, .int .i64 hi] (S ob id b a false f) pb (.int .i64 0, S ob id b a' true f')) := by
  have key : ∃ r ob', ((∃ n a', NumP lo hi b a n a' ∧ r = .int .i64 n ∧ ob' = S ob id b a' false f) ∨ ((∀ n a', ¬ NumP lo hi b a n a') ∧ ∃ a' f', r = .int .i64 0 ∧ ob' = S ob id b a' true f')) ∧ Gives env11 518 [.optr id 0, .int .i64 lo, .int .i64 hi] (S ob id b a false f) pb (r, ob') := by
    refine gives_codeQ (f := tf518) rfl ?_
    have hat := fun a' f' bad => S_at hid (v := rdO b a' bad f')
    have hcong : ∀ {a1 a2 : Nat}, a1 = a2 → S ob id b a1 false f = S ob id b a2 false f := fun h => by rw [h]
    have g1 := fun {a' : Nat} {c : Int} (hc : b[a']? = some c) => oneS (f := f) hid hpb hc (by omega)
    have g2 := fun {a' : Nat} (h : a' = b.length) => oneE (f := f) hid hpb h (by omega)
    have g3 := fun (a' : Nat) (p : Int) => failS (b := b) (a := a') (f := f) hid hpb p
    unfold S at *
    conv => whnf
    refine ⟨_, _, ⟨hat a f false, rfl, rfl⟩, ?_⟩
    conv => whnf
    refine loop_v (V := fun i : Nat × Nat => [(8, .int .i64 i.2), (9, .int .i64 ((7 * i.1 : Nat) : Int))]) (O := fun i => ob.set id (rdO b (a + i.1) false f)) (m := fun i => b.length - (a + i.1)) (P := fun i => Nv b a i.1 i.2 ∧ i.2 ≤ 1099511627776) ?_ (0, 0) ⟨nv_zero ha, by decide⟩ (by show _ = _; rfl)
    rintro R ⟨j, acc⟩ ⟨hv, hacc⟩ hN hE hR
    dsimp only at hv hacc
    have hpos := hv.pos
    have hat := fun a' f' bad => hat a' f' bad
    by_cases he : a + j = b.length
    · have g2 := g2 he
      have hat2 := hat (a + j) ((a + j : Nat) : Int) true
      dsimp only
      generalize ob.set id (rdO b (a + j) false f) = O at *
      generalize hO2 : ob.set id (rdO b (a + j) true ((a + j : Nat) : Int)) = O2 at *
      conv => whnf
      refine ⟨_, _, g2, fun h => (nomatch h), ?_⟩
      conv => whnf
      refine ⟨_, _, ⟨hat2, rfl, rfl⟩, ?_⟩
      conv => whnf
      refine hR _ ?_
      conv => whnf
      refine ⟨rfl, .inr ⟨fun n a' h => ?_, a + j, ((a + j : Nat) : Int), rfl, hO2.symm⟩⟩
      exact nv_end hv he n _ h.2.2.2
    · obtain ⟨c, hc⟩ : ∃ c, b[a + j]? = some c := ⟨b[a + j]'(by omega), List.getElem?_eq_getElem (by omega)⟩
      have hcb := hb c (List.mem_of_getElem? hc)
      have g1 := g1 hc
      have hd := and127 c hcb
      have hat2 := hat (a + j + 1) f false
      have g3 := g3 (a + j + 1) a
      have hbig : 7 ≤ j → 4398046511104 * 128 ≤ 128 ^ j := fun h => by
        have := Nat.pow_le_pow_right (n := 128) (by decide) h
        exact this
      have hwit := fun n r hn => nv_wit hv hc (n := n) (r := r) hn
      have hnext := nv_next hv hc
      have hlast := nv_last hv hc hcb.1
      have hpw : (2 : Nat) ^ (7 * j) = 128 ^ j := by rw [Nat.pow_mul]
      have hcd : (c % 128).toNat < 128 := by omega
      have hc8 : IntKind.i64.wrap (c % 128) = ((c % 128).toNat : Int) := by rw [wrap64] <;> omega
      have hS1 : ∀ p f', (ob.set id (rdO b p true f')).length = ob.length := fun p f' => List.length_set
      have hw7 : IntKind.i64.wrap (((7 * j : Nat) : Int) + 7) = ((7 * (j + 1) : Nat) : Int) := by rw [wrap64] <;> omega
      have key2 : ∀ acc' : Nat, (acc' = if j ≤ 6 then acc + (c % 128).toNat * 128 ^ j else acc) → acc' < 9223372036854775808 → True := fun _ _ _ => trivial
      dsimp only
      generalize ob.set id (rdO b (a + j) false f) = O at *
      generalize hO1 : ob.set id (rdO b (a + j + 1) false f) = O1 at *
      generalize hO3 : ob.set id (rdO b (a + j + 1) true (a : Int)) = O3 at *
      conv => whnf
      refine ⟨_, _, g1, fun h => (nomatch h), ?_⟩
      conv => whnf
      refine ⟨_, _, ⟨hat2, rfl, rfl⟩, ?_⟩
      conv => whnf
      by_cases hj : j ≤ 6
      · have hor := or_shift acc (c % 128).toNat (7 * j) (by rw [hpw]; exact hv.lt) hcd (by omega)
        rw [hpw] at hor
        refine sel_t (by simp; omega) ?_
        conv => whnf
        rw [hd, hc8, hor]
        refine sel_split (fun h1 => ?_) (fun h1 => ?_)
        · have h1 := of_decide_eq_true h1
          conv => whnf
          refine ⟨_, _, g3, fun h => (nomatch h), ?_⟩
          conv => whnf
          refine hR _ ?_
          conv => whnf
          refine ⟨rfl, .inr ⟨fun n a' h => ?_, a + j + 1, (a : Int), rfl, hO3.symm⟩⟩
          have hw := hwit n _ h.2.2.2
          have hh := h.2.1
          have hl := h.1
          omega
        · have h1 := of_decide_eq_false h1
          conv => whnf
          refine sel_f (by simp; omega) ?_
          conv => whnf
          refine sel_split (fun h5 => ?_) (fun h5 => ?_)
          · have h5 : c = 0 := by simpa using h5
            conv => whnf
            refine sel_split (fun h6 => ?_) (fun h6 => ?_)
            · have h6 := of_decide_eq_true h6
              conv => whnf
              refine ⟨_, _, g3, fun h => (nomatch h), ?_⟩
              conv => whnf
              refine hR _ ?_
              conv => whnf
              refine ⟨rfl, .inr ⟨fun n a' h => ?_, a + j + 1, (a : Int), rfl, hO3.symm⟩⟩
              have hw := hwit n _ h.2.2.2
              have hh := h.2.1
              have hl := h.1
              exact absurd ⟨h5, by omega⟩ hw.1
            · have h6 := of_decide_eq_false h6
              conv => whnf
              refine sel_t (by simp; omega) ?_
              conv => whnf
              have hnum := hlast (by omega) (.inl (by omega))
              have hc1 : c.toNat = (c % 128).toNat := by omega
              rw [hc1] at hnum
              refine hE _ _ ?_
              conv => whnf
              refine sel_split (fun h8 => ?_) (fun h8 => ?_)
              · have h8 := of_decide_eq_true h8
                conv => whnf
                refine ⟨_, _, g3, fun h => (nomatch h), ?_⟩
                conv => whnf
                refine ⟨rfl, .inr ⟨fun n a' h => ?_, a + j + 1, (a : Int), rfl, hO3.symm⟩⟩
                have hw := hwit n _ h.2.2.2
                have hh := h.2.1
                have hl := h.1
                have hi := (numB_inj _ _ _ _ (hnum.trans h.2.2.2.symm)).1
                omega
              · have h8 := of_decide_eq_false h8
                conv => whnf
                refine sel_split (fun h9 => ?_) (fun h9 => ?_)
                · have h9 := of_decide_eq_true h9
                  conv => whnf
                  refine ⟨_, _, g3, fun h => (nomatch h), ?_⟩
                  conv => whnf
                  refine ⟨rfl, .inr ⟨fun n a' h => ?_, a + j + 1, (a : Int), rfl, hO3.symm⟩⟩
                  have hw := hwit n _ h.2.2.2
                  have hh := h.2.1
                  have hl := h.1
                  have hi := (numB_inj _ _ _ _ (hnum.trans h.2.2.2.symm)).1
                  omega
                · have h9 := of_decide_eq_false h9
                  conv => whnf
                  exact ⟨rfl, .inl ⟨_, a + j + 1, ⟨by omega, by omega, by omega, hnum⟩, rfl, hO1.symm⟩⟩
          · have h5 : c ≠ 0 := by simpa using h5
            conv => whnf
            refine sel_split (fun h7 => ?_) (fun h7 => ?_)
            · have h7 := of_decide_eq_true h7
              conv => whnf
              have hnum := hlast (by omega) (.inr (by omega))
              have hc1 : c.toNat = (c % 128).toNat := by omega
              rw [hc1] at hnum
              refine hE _ _ ?_
              conv => whnf
              refine sel_split (fun h8 => ?_) (fun h8 => ?_)
              · have h8 := of_decide_eq_true h8
                conv => whnf
                refine ⟨_, _, g3, fun h => (nomatch h), ?_⟩
                conv => whnf
                refine ⟨rfl, .inr ⟨fun n a' h => ?_, a + j + 1, (a : Int), rfl, hO3.symm⟩⟩
                have hw := hwit n _ h.2.2.2
                have hh := h.2.1
                have hl := h.1
                have hi := (numB_inj _ _ _ _ (hnum.trans h.2.2.2.symm)).1
                omega
              · have h8 := of_decide_eq_false h8
                conv => whnf
                refine sel_split (fun h9 => ?_) (fun h9 => ?_)
                · have h9 := of_decide_eq_true h9
                  conv => whnf
                  refine ⟨_, _, g3, fun h => (nomatch h), ?_⟩
                  conv => whnf
                  refine ⟨rfl, .inr ⟨fun n a' h => ?_, a + j + 1, (a : Int), rfl, hO3.symm⟩⟩
                  have hw := hwit n _ h.2.2.2
                  have hh := h.2.1
                  have hl := h.1
                  have hi := (numB_inj _ _ _ _ (hnum.trans h.2.2.2.symm)).1
                  omega
                · have h9 := of_decide_eq_false h9
                  conv => whnf
                  exact ⟨rfl, .inl ⟨_, a + j + 1, ⟨by omega, by omega, by omega, hnum⟩, rfl, hO1.symm⟩⟩
            · have h7 := of_decide_eq_false h7
              conv => whnf
              have hn2 := hnext (by omega) hcb.2
              refine hN (j + 1, acc + (c % 128).toNat * 128 ^ j) _ ⟨hn2, by dsimp only; omega⟩ (by dsimp only; omega) ?_
              dsimp only
              rw [← Nat.add_assoc, hO1, ← hw7]
              rfl
      · have hbig := hbig (by omega)
        refine sel_f (by simp; omega) ?_
        conv => whnf
        refine sel_f (by simp; omega) ?_
        conv => whnf
        refine sel_t (by simp; omega) ?_
        conv => whnf
        rw [hd]
        refine sel_split (fun h2 => ?_) (fun h2 => ?_)
        · have h2 := of_decide_eq_true h2
          have h3 : 128 ^ j ≤ (c % 128).toNat * 128 ^ j := Nat.le_mul_of_pos_left _ (by omega)
          conv => whnf
          refine ⟨_, _, g3, fun h => (nomatch h), ?_⟩
          conv => whnf
          refine hR _ ?_
          conv => whnf
          refine ⟨rfl, .inr ⟨fun n a' h => ?_, a + j + 1, (a : Int), rfl, hO3.symm⟩⟩
          have hw := hwit n _ h.2.2.2
          have hh := h.2.1
          have hl := h.1
          omega
        · have h2 := of_decide_eq_false h2
          have hz : (c % 128).toNat = 0 := by omega
          have hA : acc + (c % 128).toNat * 128 ^ j = acc := by rw [hz]; simp
          conv => whnf
          refine sel_split (fun h5 => ?_) (fun h5 => ?_)
          · have h5 : c = 0 := by simpa using h5
            conv => whnf
            refine sel_split (fun h6 => ?_) (fun h6 => ?_)
            · have h6 := of_decide_eq_true h6
              conv => whnf
              refine ⟨_, _, g3, fun h => (nomatch h), ?_⟩
              conv => whnf
              refine hR _ ?_
              conv => whnf
              refine ⟨rfl, .inr ⟨fun n a' h => ?_, a + j + 1, (a : Int), rfl, hO3.symm⟩⟩
              have hw := hwit n _ h.2.2.2
              have hh := h.2.1
              have hl := h.1
              exact absurd ⟨h5, by omega⟩ hw.1
            · have h6 := of_decide_eq_false h6
              conv => whnf
              refine sel_t (by simp; omega) ?_
              conv => whnf
              have hnum := hlast (by omega) (.inl (by omega))
              have hc1 : c.toNat = (c % 128).toNat := by omega
              rw [hc1] at hnum
              rw [hA] at hnum
              refine hE _ _ ?_
              conv => whnf
              refine sel_split (fun h8 => ?_) (fun h8 => ?_)
              · have h8 := of_decide_eq_true h8
                conv => whnf
                refine ⟨_, _, g3, fun h => (nomatch h), ?_⟩
                conv => whnf
                refine ⟨rfl, .inr ⟨fun n a' h => ?_, a + j + 1, (a : Int), rfl, hO3.symm⟩⟩
                have hw := hwit n _ h.2.2.2
                have hh := h.2.1
                have hl := h.1
                have hi := (numB_inj _ _ _ _ (hnum.trans h.2.2.2.symm)).1
                omega
              · have h8 := of_decide_eq_false h8
                conv => whnf
                refine sel_split (fun h9 => ?_) (fun h9 => ?_)
                · have h9 := of_decide_eq_true h9
                  conv => whnf
                  refine ⟨_, _, g3, fun h => (nomatch h), ?_⟩
                  conv => whnf
                  refine ⟨rfl, .inr ⟨fun n a' h => ?_, a + j + 1, (a : Int), rfl, hO3.symm⟩⟩
                  have hw := hwit n _ h.2.2.2
                  have hh := h.2.1
                  have hl := h.1
                  have hi := (numB_inj _ _ _ _ (hnum.trans h.2.2.2.symm)).1
                  omega
                · have h9 := of_decide_eq_false h9
                  conv => whnf
                  exact ⟨rfl, .inl ⟨_, a + j + 1, ⟨by omega, by omega, by omega, hnum⟩, rfl, hO1.symm⟩⟩
          · have h5 : c ≠ 0 := by simpa using h5
            conv => whnf
            refine sel_split (fun h7 => ?_) (fun h7 => ?_)
            · have h7 := of_decide_eq_true h7
              conv => whnf
              have hnum := hlast (by omega) (.inr (by omega))
              have hc1 : c.toNat = (c % 128).toNat := by omega
              rw [hc1] at hnum
              rw [hA] at hnum
              refine hE _ _ ?_
              conv => whnf
              refine sel_split (fun h8 => ?_) (fun h8 => ?_)
              · have h8 := of_decide_eq_true h8
                conv => whnf
                refine ⟨_, _, g3, fun h => (nomatch h), ?_⟩
                conv => whnf
                refine ⟨rfl, .inr ⟨fun n a' h => ?_, a + j + 1, (a : Int), rfl, hO3.symm⟩⟩
                have hw := hwit n _ h.2.2.2
                have hh := h.2.1
                have hl := h.1
                have hi := (numB_inj _ _ _ _ (hnum.trans h.2.2.2.symm)).1
                omega
              · have h8 := of_decide_eq_false h8
                conv => whnf
                refine sel_split (fun h9 => ?_) (fun h9 => ?_)
                · have h9 := of_decide_eq_true h9
                  conv => whnf
                  refine ⟨_, _, g3, fun h => (nomatch h), ?_⟩
                  conv => whnf
                  refine ⟨rfl, .inr ⟨fun n a' h => ?_, a + j + 1, (a : Int), rfl, hO3.symm⟩⟩
                  have hw := hwit n _ h.2.2.2
                  have hh := h.2.1
                  have hl := h.1
                  have hi := (numB_inj _ _ _ _ (hnum.trans h.2.2.2.symm)).1
                  omega
                · have h9 := of_decide_eq_false h9
                  conv => whnf
                  exact ⟨rfl, .inl ⟨_, a + j + 1, ⟨by omega, by omega, by omega, hnum⟩, rfl, hO1.symm⟩⟩
            · have h7 := of_decide_eq_false h7
              conv => whnf
              have hn2 := hnext (by omega) hcb.2
              rw [hA] at hn2
              refine hN (j + 1, acc) _ ⟨hn2, by dsimp only; omega⟩ (by dsimp only; omega) ?_
              dsimp only
              rw [← Nat.add_assoc, hO1, ← hw7]
              rfl
  obtain ⟨r, ob', h1, h2⟩ := key
  rcases h1 with ⟨n, a', h3, rfl, rfl⟩ | ⟨h3, a', f', rfl, rfl⟩
  · exact .inl ⟨n, a', h3, h2⟩
  · exact .inr ⟨h3, a', f', h2⟩
end
end Tree.W11

set_option autoImplicit false
set_option linter.unusedVariables false
set_option linter.unusedSimpArgs false
set_option linter.unusedSectionVars false
namespace Tree.W11
open Go
set_option maxHeartbeats 8000000
set_option maxRecDepth 100000
theorem drop_app {b X r : List Int} {a : Nat} (ha : a ≤ b.length) (h : X ++ r = b.drop a) : r = b.drop (a + X.length) ∧ a + X.length ≤ b.length := by
  have h1 := congrArg List.length h
  rw [List.length_append, List.length_drop] at h1
  refine ⟨?_, by omega⟩
  rw [← List.drop_drop, ← h, List.drop_left]
abbrev nm2 (x y : Int) : LV := .agg [.int .i64 x, .int .i64 y]
def NameW (b : List Int) (a : Nat) (x y : Int) (a' : Nat) : Prop := nameOk x y ∧ a' ≤ b.length ∧ nameB x y ++ b.drop a' = b.drop a
section
variable {b : List Int} {a id : Nat} {f : Int} {ob : Obs} {pb : Nat} (hid : id < ob.length) (hpb : pb ≤ id)
include hid hpb
theorem nameBad : Gives env11 516 [.optr id 0] (S ob id b a true f) pb (nm2 0 0, S ob id b a true f) := by
  have g1 := oneB (b := b) (a := a) (f := f) hid hpb
  have g2 := numberB (b := b) (a := a) (f := f) hid hpb 0 2147483647
  have hat := S_at hid (v := rdO b a true f)
  unfold S at *
  generalize hO : ob.set id (rdO b a true f) = O at *
  unfold rdO at hat
  generalize b.map brw = B at *
  refine gives_code (f := tf516) rfl ?_
  conv => whnf
  refine ⟨_, _, ⟨hat, rfl, rfl⟩, ?_⟩
  conv => whnf
  refine ⟨_, _, g1, fun h => (nomatch h), ?_⟩
  conv => whnf
  refine ⟨_, _, g2, fun h => (nomatch h), ?_⟩
  conv => whnf
  exact ⟨rfl, rfl, rfl⟩
variable (hb : ∀ c ∈ b, 0 ≤ c ∧ c < 256) (hlen : b.length ≤ 1048576)
include hb hlen
theorem nameS (ha : a ≤ b.length) : (∃ x y a', NameW b a x y a' ∧ Gives env11 516 [.optr id 0] (S ob id b a false f) pb (nm2 x y, S ob id b a' false f)) ∨ ((∀ x y a', ¬ NameW b a x y a') ∧ ∃ x a' f', Gives env11 516 [.optr id 0] (S ob id b a false f) pb (nm2 x 0, S ob id b a' true f')) := by
  have hat := fun a' f' bad => S_at hid (v := rdO b a' bad f')
  by_cases he : a = b.length
  · refine .inr ⟨fun x y a' h => ?_, 0, a, a, ?_⟩
    · have h3 := h.2.2
      rw [he, List.drop_length] at h3
      unfold nameB at h3; cases h3
    · have g1 := oneE (f := f) hid hpb he (by omega)
      have g2 := numberB (b := b) (a := a) (f := a) hid hpb 0 2147483647
      have hat := hat a f false
      unfold S at *
      generalize hO : ob.set id (rdO b a false f) = O at *
      generalize hO2 : ob.set id (rdO b a true a) = O2 at *
      refine gives_code (f := tf516) rfl ?_
      conv => whnf
      refine ⟨_, _, ⟨hat, rfl, rfl⟩, ?_⟩
      conv => whnf
      refine ⟨_, _, g1, fun h => (nomatch h), ?_⟩
      conv => whnf
      refine ⟨_, _, g2, fun h => (nomatch h), ?_⟩
      conv => whnf
      exact ⟨rfl, rfl, rfl⟩
  · obtain ⟨c, hc⟩ : ∃ c, b[a]? = some c := ⟨b[a]'(by omega), List.getElem?_eq_getElem (by omega)⟩
    have hcb := hb c (List.mem_of_getElem? hc)
    have g1 := oneS (f := f) hid hpb hc (by omega)
    have hc64 : IntKind.i64.wrap c = c := by rw [wrap64] <;> omega
    have hd : b.drop a = c :: b.drop (a + 1) := drop_at (j := 0) hc
    by_cases h4 : 4 ≤ c
    · refine .inr ⟨fun x y a' h => ?_, c, a + 1, a, ?_⟩
      · have h3 := h.2.2
        have h5 := h.1
        unfold nameOk at h5
        rw [hd] at h3
        unfold nameB at h3
        rw [wrap8 (by omega) (by omega)] at h3
        have := (List.cons.inj h3).1
        omega
      · have g2 := failS (b := b) (a := a + 1) (f := f) hid hpb a
        have g3 := numberB (b := b) (a := a + 1) (f := a) hid hpb 0 2147483647
        have hat := hat a f false
        unfold S at *
        generalize hO : ob.set id (rdO b a false f) = O at *
        generalize hO2 : ob.set id (rdO b (a + 1) false f) = O2 at *
        generalize hO3 : ob.set id (rdO b (a + 1) true a) = O3 at *
        refine gives_code (f := tf516) rfl ?_
        conv => whnf
        refine ⟨_, _, ⟨hat, rfl, rfl⟩, ?_⟩
        conv => whnf
        refine ⟨_, _, g1, fun h => (nomatch h), ?_⟩
        conv => whnf
        rw [hc64]
        refine sel_t (by simp; omega) ?_
        conv => whnf
        refine ⟨_, _, g2, fun h => (nomatch h), ?_⟩
        conv => whnf
        refine ⟨_, _, g3, fun h => (nomatch h), ?_⟩
        conv => whnf
        exact ⟨rfl, rfl, rfl⟩
    · have walk : ∀ (v : Int) (O' : Obs), Gives env11 518 [.optr id 0, .int .i64 0, .int .i64 2147483647] (S ob id b (a + 1) false f) pb (.int .i64 v, O') → Gives env11 516 [.optr id 0] (S ob id b a false f) pb (nm2 c v, O') := by
        intro v O' g2
        have hat := hat a f false
        unfold S at *
        generalize hO : ob.set id (rdO b a false f) = O at *
        generalize hO2 : ob.set id (rdO b (a + 1) false f) = O2 at *
        refine gives_code (f := tf516) rfl ?_
        conv => whnf
        refine ⟨_, _, ⟨hat, rfl, rfl⟩, ?_⟩
        conv => whnf
        refine ⟨_, _, g1, fun h => (nomatch h), ?_⟩
        conv => whnf
        rw [hc64]
        refine sel_f (by simp; omega) ?_
        conv => whnf
        refine ⟨_, _, g2, fun h => (nomatch h), ?_⟩
        conv => whnf
        exact ⟨rfl, rfl, rfl⟩
      rcases numberS (b := b) (a := a + 1) (f := f) hid hpb hb hlen 0 2147483647 (by decide) (by omega) with ⟨n, a', h1, h2⟩ | ⟨h1, a', f', h2⟩
      · refine .inl ⟨c, n, a', ⟨⟨by omega, by omega, by omega, h1.2.1⟩, h1.2.2.1, ?_⟩, walk _ _ h2⟩
        unfold nameB
        rw [wrap8 (by omega) (by omega), hd, ← h1.2.2.2]
        rfl
      · refine .inr ⟨fun x y a2 h => ?_, c, a', f', walk _ _ h2⟩
        have h3 := h.2.2
        have h5 := h.1
        unfold nameOk at h5
        rw [hd] at h3
        unfold nameB at h3
        refine h1 y.toNat a2 ⟨by omega, by omega, h.2.1, (List.cons.inj h3).2⟩
end
end Tree.W11

set_option autoImplicit false
set_option linter.unusedVariables false
set_option linter.unusedSimpArgs false
set_option linter.unusedSectionVars false
namespace Tree.W11
open Go
set_option maxHeartbeats 8000000
set_option maxRecDepth 100000
def AmtW (b : List Int) (a : Nat) (w : Int) (bits : List Int) (a' : Nat) : Prop := AmtOk w bits ∧ bits.length ≤ 1048576 ∧ a' ≤ b.length ∧ amtB w bits ++ b.drop a' = b.drop a
section
variable {b : List Int} {a id : Nat} {f : Int} {ob : Obs} {pb : Nat} (hid : id < ob.length) (hpb : pb ≤ id) (hb : ∀ c ∈ b, 0 ≤ c ∧ c < 256) (hlen : b.length ≤ 1048576)
include hid hpb hb hlen
theorem numberT (lo hi : Int) (hhi : hi ≤ 1099511627776) (bad : Bool) (ha : bad = false → a ≤ b.length) : ∃ (n a' : Nat) (bad' : Bool) (f' : Int), Gives env11 518 [.optr id 0, .int .i64 lo, .int .i64 hi] (S ob id b a bad f) pb (.int .i64 n, S ob id b a' bad' f') ∧ (bad' = false → bad = false ∧ NumP lo hi b a n a') ∧ (bad' = true → n = 0 ∧ (bad = true ∨ ∀ n a', ¬ NumP lo hi b a n a')) := by
  cases bad with
  | true => exact ⟨0, a, true, f, numberB hid hpb lo hi, fun h => (nomatch h), fun _ => ⟨rfl, .inl rfl⟩⟩
  | false =>
    rcases numberS (f := f) hid hpb hb hlen lo hi hhi (ha rfl) with ⟨n, a', h1, h2⟩ | ⟨h1, a', f', h2⟩
    · exact ⟨n, a', false, f, h2, fun _ => ⟨rfl, h1⟩, fun h => (nomatch h)⟩
    · exact ⟨0, a', true, f', h2, fun h => (nomatch h), fun _ => ⟨rfl, .inr h1⟩⟩
theorem amountT (bad : Bool) (ha : bad = false → a ≤ b.length) : ∃ (w : Int) (bits : List Int) (a' : Nat) (bad' : Bool) (f' : Int), Gives env11 519 [.optr id 0] (S ob id b a bad f) pb (.agg [.int .i64 w, zsB 0 bits []], S ob id b a' bad' f') ∧ bits.length ≤ 1048576 ∧ (bad' = false → bad = false ∧ AmtW b a w bits a') ∧ (bad' = true → bad = true ∨ ∀ w bits a', ¬ AmtW b a w bits a') := by
  obtain ⟨w, a1, bad1, f1, g1, h1, k1⟩ := numberT (a := a) (f := f) hid hpb hb hlen 0 2147483647 (by decide) bad ha
  obtain ⟨n, a2, bad2, f2, g2, h2, k2⟩ := numberT (a := a1) (f := f1) hid hpb hb hlen 0 1048576 (by decide) bad1 (fun h => (h1 h).2.2.2.1)
  have hn : n ≤ 1048576 := by
    cases bad2 with
    | false => have := (h2 rfl).2.2.1; omega
    | true => have := (k2 rfl).1; omega
  have nowit2 : bad2 = true → bad = true ∨ ∀ w bits a', ¬ AmtW b a w bits a' := by
    intro h
    by_cases hbad : bad = true
    · exact .inl hbad
    have ha := ha (by simpa using hbad)
    refine .inr fun w' bits a' hW => ?_
    obtain ⟨⟨⟨x1, x2⟩, x3⟩, x4, x5, x6⟩ := hW
    unfold amtB at x6
    rw [List.append_assoc, List.append_assoc] at x6
    obtain ⟨y1, y2⟩ := drop_app ha x6
    rcases (k2 h).2 with h3 | h3
    · rcases (k1 h3).2 with h4 | h4
      · exact hbad h4
      · exact h4 w'.toNat _ ⟨by omega, by omega, y2, by rw [← y1]; exact x6⟩
    · by_cases hb1 : bad1 = true
      · rcases (k1 hb1).2 with h4 | h4
        · exact hbad h4
        · exact h4 w'.toNat _ ⟨by omega, by omega, y2, by rw [← y1]; exact x6⟩
      have h1 := (h1 (by simpa using hb1)).2
      have y3 := (numB_inj _ _ _ _ (h1.2.2.2.trans x6.symm)).2
      obtain ⟨y4, y5⟩ := drop_app h1.2.2.1 y3.symm
      exact h3 bits.length _ ⟨by omega, by omega, y5, by rw [← y4]; exact y3.symm⟩
  have key : ∃ r ob', (∃ (bits : List Int) (a' : Nat) (bad' : Bool) (f' : Int), r = .agg [.int .i64 w, zsB 0 bits []] ∧ ob' = S ob id b a' bad' f' ∧ bits.length ≤ n ∧ (bad' = false → bad2 = false ∧ bits.length = n ∧ upTo 0 bits ∧ a' ≤ b.length ∧ difB 0 bits ++ b.drop a' = b.drop a2) ∧ (bad' = true → bad2 = true ∨ ∀ bits a', ¬ (bits.length = n ∧ upTo 0 bits ∧ difB 0 bits ++ b.drop a' = b.drop a2))) ∧ Gives env11 519 [.optr id 0] (S ob id b a bad f) pb (r, ob') := by
    have hat := fun a' f' bad => S_at hid (v := rdO b a' bad f')
    refine gives_codeQ (f := tf519) rfl ?_
    unfold S at *
    generalize ob.set id (rdO b a1 bad1 f1) = O1 at *
    conv => whnf
    refine ⟨_, _, g1, fun h => (nomatch h), ?_⟩
    conv => whnf
    refine ⟨_, _, g2, fun h => (nomatch h), ?_⟩
    conv => whnf
    refine loop_x (ι := List Int × Int × Nat × Nat × Bool × Int) (V := fun i => [(3, .box [.int .i64 w, LV.sl true 0 1 (i.1.map zr) []]), (4, .val (.int .i64 i.2.1)), (5, .val (.int .i64 ((i.2.2.1 : Nat) : Int)))]) (O := fun i => ob.set id (rdO b i.2.2.2.1 i.2.2.2.2.1 i.2.2.2.2.2)) (m := fun i => i.2.2.1) (P := fun i => i.1.length + i.2.2.1 = n ∧ 0 ≤ i.2.1 ∧ i.2.1 ≤ 1048576 ∧ (i.2.2.2.2.1 = false → bad2 = false ∧ i.2.1 = lastOf 0 i.1 ∧ upTo 0 i.1 ∧ i.2.2.2.1 ≤ b.length ∧ difB 0 i.1 ++ b.drop i.2.2.2.1 = b.drop a2) ∧ (i.2.2.2.2.1 = true → bad2 = true ∨ ∀ bits a', ¬ (bits.length = n ∧ upTo 0 bits ∧ difB 0 bits ++ b.drop a' = b.drop a2))) ?_ ([], 0, n, a2, bad2, f2) ⟨by simp, by simp, by simp, fun h => ⟨h, rfl, trivial, (h2 h).2.2.2.1, rfl⟩, fun h => .inl h⟩ (by show _ = _; rfl)
    rintro R ⟨bits, l, k, a3, bad3, f3⟩ ⟨p1, p2, p3, p4, p5⟩ hN hE hR
    dsimp only at p1 p2 p3 p4 p5
    have hk1 : IntKind.i64.wrap (((k : Nat) : Int) - 1) = (k : Int) - 1 := by rw [wrap64] <;> omega
    have hl1 : IntKind.i64.wrap (1048576 - l) = 1048576 - l := by rw [wrap64] <;> omega
    have hat3 := hat a3 f3 bad3
    by_cases hk : 0 < k
    · cases bad3 with
      | true =>
        dsimp only
        generalize hO3 : ob.set id (rdO b a3 true f3) = O3 at *
        conv => whnf
        refine sel_t (by simp; omega) ?_
        conv => whnf
        refine ⟨_, _, ⟨hat3, rfl, rfl⟩, ?_⟩
        conv => whnf
        refine hE _ _ ?_
        conv => whnf
        exact ⟨rfl, bits, a3, true, f3, rfl, hO3.symm, by omega, fun h => (nomatch h), p5⟩
      | false =>
        obtain ⟨q1, q2, q3, q4, q5⟩ := p4 rfl
        obtain ⟨n1, a4, bad4, f4, g4, h4, k4⟩ := numberT (a := a3) (f := f3) hid hpb hb hlen 1 (1048576 - l) (by omega) false (fun _ => q4)
        have hn1 : (n1 : Int) ≤ 1048576 - l := by
          cases bad4 with
          | false => exact (h4 rfl).2.2.1
          | true => have := (k4 rfl).1; omega
        have hl2 : IntKind.i64.wrap (l + n1) = l + n1 := by rw [wrap64] <;> omega
        dsimp only
        unfold S at g4
        generalize hO3 : ob.set id (rdO b a3 false f3) = O3 at *
        generalize hO4 : ob.set id (rdO b a4 bad4 f4) = O4 at *
        conv => whnf
        refine sel_t (by simp; omega) ?_
        conv => whnf
        refine ⟨_, _, ⟨hat3, rfl, rfl⟩, ?_⟩
        conv => whnf
        rw [hl1]
        refine ⟨_, _, g4, fun h => (nomatch h), ?_⟩
        conv => whnf
        rw [hl2]
        refine ⟨(bits ++ [l + n1]).map zr, ⟨.inl rfl, ?_, by rw [List.map_append]; rfl⟩, ?_⟩
        · show ((bits.map zr).length + 1) * 8 ≤ _
          rw [List.length_map]; omega
        conv => whnf
        rw [hk1]
        refine hN (bits ++ [l + n1], l + n1, k - 1, a4, bad4, f4) _ ⟨?_, ?_, ?_, ?_, ?_⟩ (by dsimp only; omega) ?_
        · dsimp only; rw [List.length_append]; simp; omega
        · dsimp only; omega
        · dsimp only; omega
        · dsimp only
          intro hb4
          have h4 := (h4 hb4).2
          refine ⟨q1, (lastOf_snoc 0 _ bits).symm, (upTo_app _ _ _).2 ⟨q3, ?_⟩, h4.2.2.1, ?_⟩
          · rw [← q2]; exact ⟨by have := h4.1; omega, by omega, trivial⟩
          · rw [difB_app, ← q2]
            simp only [difB]
            rw [show (l + (n1 : Int) - l).toNat = n1 by omega, List.append_nil, List.append_assoc, h4.2.2.2]
            exact q5
        · dsimp only
          intro hb4
          rcases (k4 hb4).2 with h5 | h5
          · cases h5
          refine .inr fun bits' a' hW => ?_
          obtain ⟨z1, z2, z3⟩ := hW
          have e : bits' = bits'.take bits.length ++ bits'.drop bits.length := (List.take_append_drop _ _).symm
          rw [e] at z2 z3
          obtain ⟨z4, z5⟩ := (upTo_app _ _ _).1 z2
          rw [difB_app, List.append_assoc] at z3
          obtain ⟨y1, y2⟩ := difB_inj 0 _ _ _ _ (by rw [List.length_take]; omega) z4 q3 (z3.trans q5.symm)
          rw [y1, ← q2] at z5 y2
          have hne : bits'.drop bits.length ≠ [] := fun h => by
            have := congrArg List.length h
            rw [List.length_drop] at this; simp at this; omega
          cases hD : bits'.drop bits.length with
          | nil => exact hne hD
          | cons x tl =>
            rw [hD] at z5 y2
            simp only [difB, List.append_assoc] at y2
            obtain ⟨w1, w2, w3⟩ := z5
            obtain ⟨v1, v2⟩ := drop_app q4 y2
            exact h5 (x - l).toNat _ ⟨by omega, by omega, v2, by rw [← v1]; exact y2⟩
        · dsimp only
          rw [show ((k - 1 : Nat) : Int) = (k : Int) - 1 by omega, hO4]
          rfl
    · have hk0 : k = 0 := by omega
      subst hk0
      dsimp only
      generalize hO3 : ob.set id (rdO b a3 bad3 f3) = O3 at *
      conv => whnf
      refine hE _ _ ?_
      conv => whnf
      exact ⟨rfl, bits, a3, bad3, f3, rfl, hO3.symm, by omega, fun h => ⟨(p4 h).1, by simpa using p1, (p4 h).2.2.1, (p4 h).2.2.2⟩, p5⟩
  obtain ⟨r, ob', ⟨bits, a', bad', f', rfl, rfl, q0, q1, q2⟩, hg⟩ := key
  refine ⟨w, bits, a', bad', f', hg, by omega, fun h => ?_, fun h => ?_⟩
  · obtain ⟨q3, q4, q5, q6, q7⟩ := q1 h
    have h2 := h2 q3
    have h1 := h1 h2.1
    refine ⟨h1.1, ⟨⟨by omega, h1.2.2.1⟩, q5⟩, by omega, q6, ?_⟩
    unfold amtB
    rw [List.append_assoc, List.append_assoc, q7, q4, h2.2.2.2.2]
    exact h1.2.2.2.2
  · rcases q2 h with q3 | q3
    · exact nowit2 q3
    · by_cases hb2 : bad2 = true
      · exact nowit2 hb2
      have h2 := h2 (by simpa using hb2)
      have h1 := h1 h2.1
      refine .inr fun w' bits a' hW => ?_
      obtain ⟨⟨⟨x1, x2⟩, x3⟩, x4, x5, x6⟩ := hW
      unfold amtB at x6
      rw [List.append_assoc, List.append_assoc] at x6
      have y3 := (numB_inj _ _ _ _ (h1.2.2.2.2.trans x6.symm)).2
      have y4 := numB_inj _ _ _ _ (h2.2.2.2.2.trans y3)
      exact q3 bits a' ⟨y4.1.symm, x3, y4.2.symm⟩
end
end Tree.W11

set_option autoImplicit false
set_option linter.unusedVariables false
set_option linter.unusedSimpArgs false
set_option linter.unusedSectionVars false
namespace Tree.W11
open Go
set_option maxHeartbeats 8000000
set_option maxRecDepth 100000
def TokT (fl : Bool) (s : ByteArray) : Prop := NameP s.data.toList ∨ (fl = true ∧ okC (cStr s 2))
def TextW (fl : Bool) (b : List Int) (a : Nat) (s : ByteArray) (a' : Nat) : Prop := s.size ≤ 16 ∧ TokT fl s ∧ a' ≤ b.length ∧ strB s ++ b.drop a' = b.drop a
def mkS (l : List Int) : ByteArray := ⟨(l.map fun i => UInt8.ofNat i.toNat).toArray⟩
theorem mkS_bytes (l : List Int) (h : ∀ c ∈ l, 0 ≤ c ∧ c < 256) : bytesI (mkS l) = l := by
  unfold bytesI mkS
  rw [List.map_map]
  have e : ((fun b : UInt8 => ((b.toNat : Nat) : Int)) ∘ fun i : Int => UInt8.ofNat i.toNat) = fun i : Int => ((i.toNat % 256 : Nat) : Int) := by
    funext i; simp
  refine (List.map_congr_left (g := id) fun c hc => ?_).trans (List.map_id l)
  have := h c hc
  simp; omega
theorem bytesE_brw : ∀ p : List Int, bytesE (p.map brw) = some (p.map fun n => UInt8.ofNat n.toNat)
  | [] => rfl
  | c :: r => by
    show bytesE (brw c :: r.map brw) = _
    simp only [brw, bytesE, bytesE_brw r, Option.map_some, List.map_cons]
theorem makeWhy (s : ByteArray) : (makeR s [T1.mk0 [cInt 0], T1.mk0 [cInt 0]]).2 = 0 ↔ okC (cStr s 2) := by
  have hz : RightP [cInt 0] := (single_right _ (by show (1 : Int) ≠ 3; decide)).2 (.inl ⟨rfl, rfl, ⟨rfl, rfl⟩, by show (-2147483648 : Int) ≤ 0; decide, by show (0 : Int) ≤ 2147483648; decide⟩)
  have hm : MakesP s [T1.mk0 [cInt 0], T1.mk0 [cInt 0]] ↔ okC (cStr s 2) := by
    unfold MakesP
    constructor
    · exact fun h => h.1
    · intro h
      refine ⟨h, fun t ht => ?_⟩
      have : t = T1.mk0 [cInt 0] := by simpa using ht
      rw [this]; exact hz
  unfold makeR
  by_cases h : MakesP s [T1.mk0 [cInt 0], T1.mk0 [cInt 0]]
  · rw [if_pos h, if_neg (by simp [T1.mk0])]
    exact ⟨fun _ => hm.1 h, fun _ => rfl⟩
  · rw [if_neg h]
    exact ⟨fun h2 => by simp at h2, fun h2 => absurd (hm.2 h2) h⟩
section
variable {b : List Int} {a id : Nat} {f : Int} {ob : Obs} {pb : Nat} (hid : id < ob.length) (hpb : pb ≤ id) (hb : ∀ c ∈ b, 0 ≤ c ∧ c < 256) (hlen : b.length ≤ 1048576)
include hid hpb hb hlen
theorem textT (fl bad : Bool) (ha : bad = false → a ≤ b.length) : ∃ (s : ByteArray) (a' : Nat) (bad' : Bool) (f' : Int), s.size ≤ 16 ∧ Gives env11 523 [.optr id 0, .bool fl] (S ob id b a bad f) pb (.str s, S ob id b a' bad' f') ∧ (bad' = false → bad = false ∧ TextW fl b a s a') ∧ (bad' = true → bad = true ∨ ∀ s a', ¬ TextW fl b a s a') := by
  obtain ⟨n, a1, bad1, f1, g1, h1, k1⟩ := numberT (a := a) (f := f) hid hpb hb hlen 0 16 (by decide) bad ha
  have hat := fun a' f' bad => S_at hid (v := rdO b a' bad f')
  have hat0 := hat a f bad
  have hat1 := hat a1 f1 bad1
  cases bad1 with
  | true =>
    refine ⟨emptyS, a1, true, f1, Nat.zero_le _, ?_, fun h => (nomatch h), fun _ => ?_⟩
    · unfold S at *
      generalize ob.set id (rdO b a bad f) = O at *
      generalize ob.set id (rdO b a1 true f1) = O1 at *
      refine gives_code (f := tf523) rfl ?_
      conv => whnf
      refine ⟨_, _, ⟨hat0, rfl, rfl⟩, ?_⟩
      conv => whnf
      refine ⟨_, _, g1, fun h => (nomatch h), ?_⟩
      conv => whnf
      refine ⟨_, _, ⟨hat1, rfl, rfl⟩, ?_⟩
      conv => whnf
      exact ⟨rfl, rfl, rfl⟩
    · rcases (k1 rfl).2 with h | h
      · exact .inl h
      by_cases hbad : bad = true
      · exact .inl hbad
      have ha := ha (by simpa using hbad)
      refine .inr fun s a' hW => ?_
      obtain ⟨x1, x2, x3, x4⟩ := hW
      unfold strB at x4
      rw [List.append_assoc] at x4
      obtain ⟨y1, y2⟩ := drop_app ha x4
      exact h s.size _ ⟨by omega, by omega, y2, by rw [← y1]; exact x4⟩
  | false =>
    obtain ⟨hbad, hN⟩ := h1 rfl
    subst hbad
    have ha := ha rfl
    have hwit : ∀ s a', TextW fl b a s a' → s.size = n ∧ bytesI s ++ b.drop a' = b.drop a1 := fun s a' hW => by
      obtain ⟨x1, x2, x3, x4⟩ := hW
      unfold strB at x4
      rw [List.append_assoc] at x4
      have := numB_inj _ _ _ _ (x4.trans hN.2.2.2.symm)
      exact this
    have hbl : (b.map brw).length = b.length := by simp
    have hsub : IntKind.i64.wrap ((b.length : Int) - (a1 : Int)) = (b.length : Int) - (a1 : Int) := by have := hN.2.2.1; rw [wrap64] <;> omega
    have ha1 := hN.2.2.1
    have hn16 := hN.2.1
    have hadd : IntKind.i64.wrap ((a1 : Int) + (n : Int)) = ((a1 + n : Nat) : Int) := by have := hN.2.2.1; have := hN.2.1; rw [wrap64] <;> omega
    by_cases hs : b.length - a1 < n
    · refine ⟨emptyS, a1, true, b.length, Nat.zero_le _, ?_, fun h => (nomatch h), fun _ => .inr fun s a' hW => ?_⟩
      · have gf := failS (b := b) (a := a1) (f := f1) hid hpb (b.length : Int)
        unfold S at *
        generalize hO : ob.set id (rdO b a false f) = O at *
        generalize hO1 : ob.set id (rdO b a1 false f1) = O1 at *
        generalize hO3 : ob.set id (rdO b a1 true b.length) = O3 at *
        refine gives_code (f := tf523) rfl ?_
        conv => whnf
        refine ⟨_, _, ⟨hat0, rfl, rfl⟩, ?_⟩
        conv => whnf
        refine ⟨_, _, g1, fun h => (nomatch h), ?_⟩
        conv => whnf
        refine ⟨_, _, ⟨hat1, rfl, rfl⟩, ?_⟩
        conv => whnf
        refine ⟨_, _, ⟨hat1, rfl, rfl⟩, ?_⟩
        conv => whnf
        refine ⟨_, _, ⟨hat1, rfl, rfl⟩, ?_⟩
        conv => whnf
        refine sel_t (by rw [hbl, hsub]; simp; omega) ?_
        conv => whnf
        refine ⟨_, _, ⟨hat1, rfl, rfl⟩, ?_⟩
        conv => whnf
        rw [hbl]
        refine ⟨_, _, gf, fun h => (nomatch h), ?_⟩
        conv => whnf
        exact ⟨rfl, rfl, rfl⟩
      · obtain ⟨y1, y2⟩ := hwit s a' hW
        have := congrArg List.length y2
        rw [List.length_append, List.length_drop, List.length_drop, bytesI_len] at this
        omega
    · have hset : (ob.set id (rdO b a1 false f1)).set id (rdO b (a1 + n) false f1) = ob.set id (rdO b (a1 + n) false f1) := List.set_set _
      have gf := failS (b := b) (a := a1 + n) (f := f1) hid hpb (a : Int)
      have hXb := mkS_bytes ((b.drop a1).take n) (fun c hc => hb c (List.mem_of_mem_drop (List.mem_of_mem_take hc)))
      have hXl : ((b.drop a1).take n).length = n := by rw [List.length_take, List.length_drop]; omega
      have hXa : (b.drop a1).take n ++ b.drop (a1 + n) = b.drop a1 := by rw [← List.drop_drop]; exact List.take_append_drop _ _
      unfold S at *
      generalize hX : (b.drop a1).take n = X at *
      have hsz : (mkS X).size = n := by rw [← bytesI_len, hXb, hXl]
      obtain ⟨q, hq⟩ := boolOf (NameP (mkS X).data.toList)
      have gN := fun ob pb => (isName_ok (mkS X) (by rw [hsz]; unfold maxLen; omega) ob pb q hq).le le111
      have g9 := fun ob pb => (ofInt_ok 0 ob pb true (by simp; exact .inl ⟨rfl, rfl, ⟨rfl, rfl⟩, by show (-2147483648 : Int) ≤ 0; decide, by show (0 : Int) ≤ 2147483648; decide⟩)).le le111
      have gM := fun ob pb => (make_ok (mkS X) (by rw [hsz]; unfold maxLen; omega) 0 [T1.mk0 [cInt 0], T1.mk0 [cInt 0]] [] (by simp) (fun t ht => by
        have : t = T1.mk0 [cInt 0] := (by simpa using ht)
        rw [this]; refine ⟨by simp [T1.mk0], fun c hc => ?_⟩
        have hc : c = cInt 0 := (by simpa [T1.mk0] using hc)
        rw [hc]; exact ⟨by decide, by decide, by decide⟩) ob pb).le le111
      have hwhy := makeWhy (mkS X)
      generalize makeR (mkS X) [T1.mk0 [cInt 0], T1.mk0 [cInt 0]] = p at gM hwhy
      have hnr : ∀ n, (makeV p).noRef n = true := fun n => by simp [makeV, LV.noRef, LV.noRefs, LV.noRefss, noRef_rows]
      have hset2 : (ob.set id (rdO b a1 false f1)).set id (List.take (0 + 1) (rdO b a1 false f1) ++ (LV.int .i64 ((a1 + n : Nat) : Int)).cells ++ List.drop (0 + 1 + (LV.int .i64 ((a1 + n : Nat) : Int)).cells.length) (rdO b a1 false f1)) = ob.set id (rdO b (a1 + n) false f1) := hset
      by_cases hT : TokT fl (mkS X)
      · refine ⟨mkS X, a1 + n, false, f1, by omega, ?_, fun _ => ⟨rfl, by omega, hT, by omega, ?_⟩, fun h => (nomatch h)⟩
        · generalize hO : ob.set id (rdO b a false f) = O at *
          generalize hO1 : ob.set id (rdO b a1 false f1) = O1 at *
          generalize hO2 : ob.set id (rdO b (a1 + n) false f1) = O2 at *
          refine gives_code (f := tf523) rfl ?_
          conv => whnf
          refine ⟨_, _, ⟨hat0, rfl, rfl⟩, ?_⟩
          conv => whnf
          refine ⟨_, _, g1, fun h => (nomatch h), ?_⟩
          conv => whnf
          refine ⟨_, _, ⟨hat1, rfl, rfl⟩, ?_⟩
          conv => whnf
          refine ⟨_, _, ⟨hat1, rfl, rfl⟩, ?_⟩
          conv => whnf
          refine ⟨_, _, ⟨hat1, rfl, rfl⟩, ?_⟩
          conv => whnf
          refine sel_f (by rw [hbl, hsub]; simp; omega) ?_
          conv => whnf
          refine ⟨_, _, ⟨hat1, rfl, rfl⟩, ?_⟩
          conv => whnf
          refine ⟨_, _, ⟨hat1, rfl, rfl⟩, ?_⟩
          conv => whnf
          refine ⟨_, _, ⟨hat1, rfl, rfl⟩, ?_⟩
          conv => whnf
          refine ⟨_, _, ⟨hat1, rfl, rfl⟩, ?_⟩
          conv => whnf
          rw [hadd]
          refine ⟨X.map brw, [], ⟨⟨by omega, by omega, by omega, by rw [List.append_nil, hbl]; omega⟩, ?_, ?_⟩, ?_⟩
          · rw [List.append_nil, show ((a1 + n : Nat) : Int).toNat = a1 + n by omega, show ((a1 : Nat) : Int).toNat = a1 by omega, ← List.map_take, ← List.map_drop, List.drop_take, Nat.add_sub_cancel_left, hX]
          · rw [List.drop_take]; simp
          conv => whnf
          refine ⟨(1, X.map brw), _, ⟨rfl, rfl, bytesE_brw X⟩, ?_⟩
          conv => whnf
          refine ⟨_, _, ⟨hat1, rfl, rfl⟩, ?_⟩
          conv => whnf
          rw [hadd]
          refine ⟨_, _, ⟨hpb, hat1, rfl, rfl⟩, ?_⟩
          conv => whnf
          rw [hset2]
          refine ⟨_, _, gN _ _, fun _ => rfl, ?_⟩
          conv => whnf
          cases q with
          | true =>
            conv => whnf
            exact ⟨rfl, rfl, rfl⟩
          | false =>
            conv => whnf
            have hT : fl = true ∧ okC (cStr (mkS X) 2) := hT.resolve_left (fun h => by have := hq.2 h; cases this)
            refine ⟨_, _, g9 _ _, fun _ => rfl, ?_⟩
            conv => whnf
            refine ⟨_, _, g9 _ _, fun _ => rfl, ?_⟩
            conv => whnf
            refine ⟨_, _, gM _ _, fun _ => hnr _, ?_⟩
            conv => whnf
            obtain ⟨rfl, hT2⟩ := hT
            conv => whnf
            refine sel_f (by simp; exact hwhy.2 hT2) ?_
            conv => whnf
            exact ⟨rfl, rfl, rfl⟩
        · unfold strB
          rw [hXb, hsz, List.append_assoc, hXa]; exact hN.2.2.2
      · refine ⟨mkS X, a1 + n, true, a, by omega, ?_, fun h => (nomatch h), fun _ => .inr fun s a' hW => ?_⟩
        · generalize hO : ob.set id (rdO b a false f) = O at *
          generalize hO1 : ob.set id (rdO b a1 false f1) = O1 at *
          generalize hO2 : ob.set id (rdO b (a1 + n) false f1) = O2 at *
          generalize hO3 : ob.set id (rdO b (a1 + n) true a) = O3 at *
          refine gives_code (f := tf523) rfl ?_
          conv => whnf
          refine ⟨_, _, ⟨hat0, rfl, rfl⟩, ?_⟩
          conv => whnf
          refine ⟨_, _, g1, fun h => (nomatch h), ?_⟩
          conv => whnf
          refine ⟨_, _, ⟨hat1, rfl, rfl⟩, ?_⟩
          conv => whnf
          refine ⟨_, _, ⟨hat1, rfl, rfl⟩, ?_⟩
          conv => whnf
          refine ⟨_, _, ⟨hat1, rfl, rfl⟩, ?_⟩
          conv => whnf
          refine sel_f (by rw [hbl, hsub]; simp; omega) ?_
          conv => whnf
          refine ⟨_, _, ⟨hat1, rfl, rfl⟩, ?_⟩
          conv => whnf
          refine ⟨_, _, ⟨hat1, rfl, rfl⟩, ?_⟩
          conv => whnf
          refine ⟨_, _, ⟨hat1, rfl, rfl⟩, ?_⟩
          conv => whnf
          refine ⟨_, _, ⟨hat1, rfl, rfl⟩, ?_⟩
          conv => whnf
          rw [hadd]
          refine ⟨X.map brw, [], ⟨⟨by omega, by omega, by omega, by rw [List.append_nil, hbl]; omega⟩, ?_, ?_⟩, ?_⟩
          · rw [List.append_nil, show ((a1 + n : Nat) : Int).toNat = a1 + n by omega, show ((a1 : Nat) : Int).toNat = a1 by omega, ← List.map_take, ← List.map_drop, List.drop_take, Nat.add_sub_cancel_left, hX]
          · rw [List.drop_take]; simp
          conv => whnf
          refine ⟨(1, X.map brw), _, ⟨rfl, rfl, bytesE_brw X⟩, ?_⟩
          conv => whnf
          refine ⟨_, _, ⟨hat1, rfl, rfl⟩, ?_⟩
          conv => whnf
          rw [hadd]
          refine ⟨_, _, ⟨hpb, hat1, rfl, rfl⟩, ?_⟩
          conv => whnf
          rw [hset2]
          refine ⟨_, _, gN _ _, fun _ => rfl, ?_⟩
          conv => whnf
          cases q with
          | true => exact absurd (.inl (hq.1 rfl)) hT
          | false =>
            conv => whnf
            refine ⟨_, _, g9 _ _, fun _ => rfl, ?_⟩
            conv => whnf
            refine ⟨_, _, g9 _ _, fun _ => rfl, ?_⟩
            conv => whnf
            refine ⟨_, _, gM _ _, fun _ => hnr _, ?_⟩
            conv => whnf
            cases fl with
            | false =>
              conv => whnf
              refine ⟨_, _, gf, fun h => (nomatch h), ?_⟩
              conv => whnf
              exact ⟨rfl, rfl, rfl⟩
            | true =>
              conv => whnf
              refine sel_t (by simp; exact fun h => hT (.inr ⟨rfl, hwhy.1 h⟩)) ?_
              conv => whnf
              refine ⟨_, _, gf, fun h => (nomatch h), ?_⟩
              conv => whnf
              exact ⟨rfl, rfl, rfl⟩
        · obtain ⟨y1, y2⟩ := hwit s a' hW
          have y3 := List.append_inj (y2.trans hXa.symm) (by rw [bytesI_len]; omega)
          have : s = mkS X := bytesI_inj (by rw [hXb]; exact y3.1)
          exact hT (this ▸ hW.2.1)
end
end Tree.W11

set_option autoImplicit false
set_option linter.unusedVariables false
set_option linter.unusedSimpArgs false
set_option linter.unusedSectionVars false
namespace Tree.W11
open Go
set_option maxHeartbeats 8000000
set_option maxRecDepth 100000
def zeros (n : Nat) : List C := List.replicate n (cInt 0)
theorem ok_zero : okC (cInt 0) := .inl ⟨rfl, rfl, ⟨rfl, rfl⟩, by show (-2147483648 : Int) ≤ 0; decide, by show (0 : Int) ≤ 2147483648; decide⟩
theorem walk_zeros : ∀ n : Nat, walk (zeros n) n = some []
  | 0 => rfl
  | n + 1 => by
    show walk (cInt 0 :: zeros n) (n + 1) = _
    have : ar (cInt 0) = 0 := rfl
    rw [walk, this, Nat.add_zero, walk_zeros n]
theorem ar_fn {c : C} (h : okC c) (hk : c.k = 3) : 0 ≤ c.n ∧ c.n ≤ 8 ∧ ar c = c.n.toNat := by
  have hp := ok_parts h
  unfold ar partsC at *
  rw [if_pos hk] at hp ⊢
  rcases h with h | h | h | h
  · omega
  · omega
  · rcases h.2.2 with g | g
    · rw [if_neg (by omega)] at hp ⊢; omega
    · rw [if_neg (by omega)] at hp ⊢; omega
  · omega
theorem right_fn (c : C) (hk : c.k = 3) (m : Nat) (hm : (m : Int) = max 0 (min c.n 9)) : RightP (c :: zeros m) ↔ okC c := by
  constructor
  · exact fun h => ((right_walk _).1 h).2.2.2 c (List.mem_cons_self ..)
  · intro h
    obtain ⟨h1, h2, h3⟩ := ar_fn h hk
    refine (right_walk _).2 ⟨List.cons_ne_nil _ _, ?_, ?_, ?_⟩
    · simp [zeros]; omega
    · rw [walk, h3, show 0 + c.n.toNat = m by omega, walk_zeros]
    · intro d hd
      rcases List.mem_cons.1 hd with rfl | hd
      · exact h
      · rw [(List.mem_replicate.1 hd).2]; exact ok_zero
theorem rightCell_ok (c : C) (hf : c.fine) (ob : Obs) (pb : Nat) (r : Bool) (hr : r = true ↔ okC c) : Gives env11 524 [c.lv] ob pb (.bool r, ob) := by
  have fz : (cInt 0).fine := ⟨by decide, by decide, by decide⟩
  have gR := fun (cs : List C) (hl : cs.length ≤ 100) (hf : ∀ d ∈ cs, d.fine) (hr : r = true ↔ RightP cs) (o : Bool) (ob : Obs) (pb : Nat) => (right_ok 0 cs [] (by omega) hf ob pb r hr).le le111
  have g9 := fun ob pb => (ofInt_ok 0 ob pb true (by simp [ok_zero])).le le111
  by_cases hk : c.k = 3
  · obtain ⟨m, hm⟩ : ∃ m : Nat, (m : Int) = max 0 (min c.n 9) := ⟨(max 0 (min c.n 9)).toNat, by omega⟩
    have hv : (if (0 : Int) < (if 9 < c.n then 9 else c.n) then (if 9 < c.n then 9 else c.n) else 0 : Int) = m := by rw [hm]; split <;> split <;> omega
    refine gives_code (f := tf524) rfl ?_
    conv => whnf
    refine sel_t (by simp [hk]) ?_
    conv => whnf
    refine loop_v (V := fun i : Nat => [(3, sl5 true 0 (c :: zeros i) []), (13, .int .i64 ((i : Nat) : Int))]) (O := fun i => ob) (m := fun i => m - i) (P := fun i => i ≤ m) ?_ 0 (by omega) (by show _ = _; rfl)
    rintro R i hi hN hE hR
    have hi1 : IntKind.i64.wrap ((i : Int) + 1) = ((i + 1 : Nat) : Int) := by rw [wrap64] <;> omega
    conv => whnf
    refine sel_split (fun h => ?_) (fun h => ?_)
    · have h := of_decide_eq_true h
      simp only [if_true, Bool.false_eq_true, if_false] at h
      rw [hv] at h
      conv => whnf
      refine ⟨_, _, g9 _ _, fun _ => rfl, ?_⟩
      conv => whnf
      refine ⟨(c :: zeros (i + 1)).map C.row, ⟨.inl rfl, ?_, ?_⟩, ?_⟩
      · show (((c :: zeros i).map C.row).length + 1) * 48 ≤ _
        simp [zeros]; omega
      · simp [zeros, List.replicate_succ']
      conv => whnf
      refine hN (i + 1) _ (by omega) (by omega) ?_
      dsimp only
      rw [← hi1]
      rfl
    · have h := of_decide_eq_false h
      simp only [if_true, Bool.false_eq_true, if_false] at h
      rw [hv] at h
      conv => whnf
      refine hE _ _ ?_
      conv => whnf
      have e : i = m := by omega
      subst e
      refine ⟨_, _, gR (c :: zeros i) (by simp [zeros]; omega) ?_ (by rw [hr, right_fn c hk i hm]) true _ _, fun _ => rfl, ?_⟩
      · intro d hd
        rcases List.mem_cons.1 hd with rfl | hd
        · exact hf
        · rw [(List.mem_replicate.1 hd).2]; exact fz
      conv => whnf
      exact ⟨rfl, rfl, rfl⟩
  · have gR := gR [c] (by simp) (by simpa using hf) (by rw [hr, single_right c hk])
    refine gives_code (f := tf524) rfl ?_
    conv => whnf
    refine sel_f (by simp [hk]) ?_
    conv => whnf
    refine ⟨_, _, gR true _ _, fun _ => rfl, ?_⟩
    conv => whnf
    exact ⟨rfl, rfl, rfl⟩
end Tree.W11
