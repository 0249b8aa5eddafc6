/- Layer 11: numbers as bytes. -/
import Derived.Test.YtkdccglaeegdaaaDoorL11Live
import Derived.Test.YtkdccglaeegdaaaDoorTW
import Derived.Test.YtkdccglaeegdaaaDoorTLb
set_option autoImplicit false
set_option linter.unusedVariables false
set_option linter.unusedSimpArgs false
namespace Tree.W11
open Go
set_option maxHeartbeats 8000000
set_option maxRecDepth 100000
def brw (b : Int) : List LV := [.int .u8 b]
abbrev slB (o : Bool) (bs : List Int) : LV := .sl o 0 1 (bs.map brw) []
def obW (bs : List Int) : List LV := [slB true bs]
def numB (n : Nat) : List Int := if h : n < 128 then [(n : Int)] else ((n % 128 + 128 : Nat) : Int) :: numB (n / 128)
termination_by n
decreasing_by omega
theorem numB_lt {n : Nat} (h : n < 128) : numB n = [(n : Int)] := by rw [numB, dif_pos h]
theorem numB_ge {n : Nat} (h : ¬ n < 128) : numB n = ((n % 128 + 128 : Nat) : Int) :: numB (n / 128) := by rw [numB, dif_neg h]
theorem or128 (n : Int) (h : 0 ≤ n) : IntKind.u8.wrap (BitVec.ofInt IntKind.u8.bits (IntKind.u8.wrap n) ||| BitVec.ofInt IntKind.u8.bits 128).toNat = n % 128 + 128 := by
  have key : ∀ b : Fin 256, IntKind.u8.wrap (BitVec.ofInt IntKind.u8.bits ((b : Nat) : Int) ||| BitVec.ofInt IntKind.u8.bits 128).toNat = (((b : Nat) % 128 + 128 : Nat) : Int) := by decide +kernel
  have e : IntKind.u8.wrap n = ((n % 256).toNat : Int) := by
    show n.emod 256 = _
    have : n.emod 256 = n % 256 := rfl
    rw [this]; omega
  have hb : (n % 256).toNat < 256 := by omega
  have := key ⟨(n % 256).toNat, hb⟩
  rw [e, this]
  show ((((n % 256).toNat % 128 + 128 : Nat)) : Int) = _
  omega
end Tree.W11

set_option autoImplicit false
set_option linter.unusedVariables false
set_option linter.unusedSimpArgs false
namespace Tree.W11
open Go
set_option maxHeartbeats 8000000
set_option maxRecDepth 100000
theorem wrap8 {n : Int} (h0 : 0 ≤ n) (h : n < 256) : IntKind.u8.wrap n = n := by
  show n.emod 256 = n
  have : n.emod 256 = n % 256 := rfl
  rw [this]; omega
theorem numB_len : ∀ n : Nat, n < 9223372036854775808 → (numB n).length ≤ 10 := by
  intro n h
  have key : ∀ (k n : Nat), n < 128 ^ (k + 1) → (numB n).length ≤ k + 1 := by
    intro k
    induction k with
    | zero => intro n h; rw [numB_lt (by omega)]; simp
    | succ k ih =>
      intro n h
      by_cases h1 : n < 128
      · rw [numB_lt h1]; simp
      · rw [numB_ge h1, List.length_cons]
        have := ih (n / 128) (by rw [Nat.div_lt_iff_lt_mul (by omega)]; rw [Nat.pow_succ] at h; exact h)
        omega
  exact key 9 n (by omega)
theorem set3 (ob : Obs) (id : Nat) (a : List LV) {b c : List LV} : ((ob.set id a).set id b).set id c = ob.set id c := by rw [List.set_set, List.set_set]
section
variable {ob : Obs} {id pb : Nat} {bs : List Int} (hob : ob[id]? = some (obW bs)) (hpb : pb ≤ id)
include hob
theorem set_at {v : List LV} : (ob.set id v)[id]? = some v := by
  have := (List.getElem?_eq_some_iff.1 hob).1
  rw [List.getElem?_set_self this]
include hpb
theorem number_ok (n : Nat) (hn : n < 9223372036854775808) (hb : bs.length ≤ 4294967296) : Gives env11 497 [.optr id 0, .int .i64 n] ob pb (.tup [], ob.set id (obW (bs ++ numB n))) := by
  have hlen := numB_len n hn
  have hself : ob.set id (obW bs) = ob := by
    apply List.ext_getElem?; intro i
    rw [List.getElem?_set]
    split
    · rename_i h; subst h; rw [if_pos (List.getElem?_eq_some_iff.1 hob).1, hob]
    · rfl
  refine gives_code (f := tf497) rfl ?_
  conv => whnf
  refine loop_v (V := fun i : List Int × Nat => [(1, .int .i64 i.2)]) (O := fun i => ob.set id (obW (bs ++ i.1))) (m := fun i => i.2) (P := fun i => i.2 ≤ n ∧ i.1 ++ numB i.2 = numB n) ?_ ([], n) ⟨Nat.le_refl _, rfl⟩ (by show _ = _; rw [List.append_nil, hself]; rfl)
  rintro R ⟨pre, k⟩ ⟨h1, h2⟩ hN hE hR
  dsimp only at h1 h2
  have hpl : pre.length ≤ 10 := by
    have := congrArg List.length h2
    rw [List.length_append] at this; omega
  have hob2 : (ob.set id (obW (bs ++ pre)))[id]? = some (obW (bs ++ pre)) := set_at hob
  conv => whnf
  refine sel_split (fun h => ?_) (fun h => ?_)
  · have h : (k : Int) ≥ 128 := of_decide_eq_true h
    rw [numB_ge (by omega)] at h2
    have e1 := or128 (k : Int) (by omega)
    have e2 : ((k : Int) % 128 + 128) = ((k % 128 + 128 : Nat) : Int) := by omega
    rw [e2] at e1
    have e3 : (k : Int).fdiv (2 ^ min (7 : Int).toNat IntKind.i64.bits) = ((k / 128 : Nat) : Int) := by
      show (k : Int).fdiv 128 = _
      rw [Int.fdiv_eq_ediv_of_nonneg _ (by omega)]; omega
    conv => whnf
    refine ⟨_, _, ⟨hob2, rfl, rfl⟩, ?_⟩
    conv => whnf
    rw [e1]
    refine ⟨_, _, _, _, ⟨hpb, hob2, rfl⟩, ?_⟩
    conv => whnf
    refine ⟨(bs ++ (pre ++ [((k % 128 + 128 : Nat) : Int)])).map brw, ⟨.inl rfl, ?_, by rw [← List.append_assoc, List.map_append (l₁ := bs ++ pre)]; rfl⟩, ?_⟩
    · show (((bs ++ pre).map brw).length + 1) * 1 ≤ _
      rw [List.length_map, List.length_append]; omega
    conv => whnf
    refine ⟨_, obW (bs ++ (pre ++ [((k % 128 + 128 : Nat) : Int)])), ⟨hpb, by rw [set_at hob2], rfl, rfl⟩, ?_⟩
    conv => whnf
    refine hN (pre ++ [((k % 128 + 128 : Nat) : Int)], k / 128) _ ⟨by dsimp only; omega, by rw [List.append_assoc]; exact h2⟩ (by dsimp only; omega) ?_
    dsimp only
    rw [← e3, show ob.set id (obW (bs ++ (pre ++ [((k % 128 + 128 : Nat) : Int)]))) = ((ob.set id (obW (bs ++ pre))).set id ((obW (bs ++ pre)).modify (0 + 0) LV.bare1)).set id (obW (bs ++ (pre ++ [((k % 128 + 128 : Nat) : Int)]))) from (set3 ob id _).symm]
    rfl
  · conv => whnf
    have h : ¬ (k : Int) ≥ 128 := of_decide_eq_false h
    rw [numB_lt (by omega)] at h2
    have e2 : IntKind.u8.wrap (k : Int) = k := wrap8 (by omega) (by omega)
    refine hE _ _ ?_
    conv => whnf
    refine ⟨_, _, ⟨hob2, rfl, rfl⟩, ?_⟩
    conv => whnf
    rw [e2]
    refine ⟨_, _, _, _, ⟨hpb, hob2, rfl⟩, ?_⟩
    conv => whnf
    refine ⟨(bs ++ numB n).map brw, ⟨.inl rfl, ?_, by rw [← h2, ← List.append_assoc, List.map_append (l₁ := bs ++ pre)]; rfl⟩, ?_⟩
    · show (((bs ++ pre).map brw).length + 1) * 1 ≤ _
      rw [List.length_map, List.length_append]; omega
    conv => whnf
    refine ⟨_, obW (bs ++ numB n), ⟨hpb, by rw [set_at hob2], rfl, rfl⟩, ?_⟩
    conv => whnf
    refine ⟨rfl, rfl, ?_⟩
    show ((ob.set id _).set id _).set id _ = _
    rw [List.set_set, List.set_set]
end
end Tree.W11

set_option autoImplicit false
set_option linter.unusedVariables false
set_option linter.unusedSimpArgs false
namespace Tree.W11
open Go
set_option maxHeartbeats 8000000
set_option maxRecDepth 100000
def bytesI (s : ByteArray) : List Int := s.data.toList.map fun b => ((b.toNat : Nat) : Int)
def strB (s : ByteArray) : List Int := numB s.size ++ bytesI s
def nameB (a b : Int) : List Int := IntKind.u8.wrap a :: numB b.toNat
theorem bytesI_len (s : ByteArray) : (bytesI s).length = s.size := by
  unfold bytesI; rw [List.length_map]; rfl
theorem bytes_rows (s : ByteArray) : (s.data.toList.map fun b => ([.int .u8 b.toNat] : List LV)) = (bytesI s).map brw := by
  unfold bytesI; rw [List.map_map]; rfl
theorem noRef_b (n : Nat) : ∀ l : List Int, LV.noRefss n (l.map brw) = true
  | [] => by simp [LV.noRefss]
  | c :: l => by
    have ih := noRef_b n l
    simp [List.map_cons, LV.noRefss, ih, brw, LV.noRefs, LV.noRef]
theorem noRefB (n : Nat) (o : Bool) (l : List Int) : (slB o l).noRef n = true := by
  simp only [LV.noRef, noRef_b, LV.noRefss, Bool.and_self]
section
variable {ob : Obs} {id pb : Nat} {bs : List Int} (hob : ob[id]? = some (obW bs)) (hpb : pb ≤ id)
include hob hpb
theorem text_ok (s : ByteArray) (hs : s.size ≤ 4294967296) (hb : bs.length ≤ 2147483648) : Gives env11 514 [.optr id 0, .str s] ob pb (.tup [], ob.set id (obW (bs ++ strB s))) := by
  have h1 := numB_len s.size (by omega)
  have h2 := bytesI_len s
  have hob2 : (ob.set id (obW (bs ++ numB s.size)))[id]? = some (obW (bs ++ numB s.size)) := set_at hob
  refine gives_code (f := tf514) rfl ?_
  conv => whnf
  refine ⟨_, _, number_ok hob hpb s.size (by omega) (by omega), fun e => (nomatch e), ?_⟩
  conv => whnf
  refine ⟨_, _, ⟨hob2, rfl, rfl⟩, ?_⟩
  conv => whnf
  refine ⟨_, _, _, _, ⟨hpb, hob2, rfl⟩, ?_⟩
  conv => whnf
  refine ⟨(bs ++ strB s).map brw, ⟨.inl rfl, ?_, ?_⟩, ?_⟩
  · show (((bs ++ numB s.size).map brw).length + (s.data.toList.map _).length) * 1 ≤ _
    rw [List.length_map, List.length_map, List.length_append]
    have : s.data.toList.length = s.size := rfl
    omega
  · unfold strB; rw [← List.append_assoc, List.map_append (l₁ := bs ++ numB s.size), ← bytes_rows]
  conv => whnf
  refine ⟨_, obW (bs ++ strB s), ⟨hpb, by rw [set_at hob2], rfl, rfl⟩, ?_⟩
  conv => whnf
  refine ⟨rfl, rfl, ?_⟩
  show ((ob.set id _).set id _).set id _ = _
  rw [List.set_set, List.set_set]
theorem name_ok (a b : Int) (h0 : 0 ≤ b) (hb2 : b < 9223372036854775808) (hb : bs.length ≤ 2147483648) : Gives env11 495 [.optr id 0, .agg [.int .i64 a, .int .i64 b]] ob pb (.tup [], ob.set id (obW (bs ++ nameB a b))) := by
  have h1 := numB_len b.toNat (by omega)
  have e : b = ((b.toNat : Nat) : Int) := by omega
  have hob2 : (ob.set id (obW (bs ++ [IntKind.u8.wrap a])))[id]? = some (obW (bs ++ [IntKind.u8.wrap a])) := set_at hob
  refine gives_code (f := tf495) rfl ?_
  conv => whnf
  refine ⟨_, _, ⟨hob, rfl, rfl⟩, ?_⟩
  conv => whnf
  refine ⟨_, _, _, _, ⟨hpb, hob, rfl⟩, ?_⟩
  conv => whnf
  refine ⟨(bs ++ [IntKind.u8.wrap a]).map brw, ⟨.inl rfl, ?_, by rw [List.map_append]; rfl⟩, ?_⟩
  · show ((bs.map brw).length + 1) * 1 ≤ _
    rw [List.length_map]; omega
  conv => whnf
  refine ⟨_, obW (bs ++ [IntKind.u8.wrap a]), ⟨hpb, by rw [set_at hob], rfl, rfl⟩, ?_⟩
  have hob3 : ((ob.set id ((obW bs).modify (0 + 0) LV.bare1)).set id (obW (bs ++ [IntKind.u8.wrap a])))[id]? = some (obW (bs ++ [IntKind.u8.wrap a])) := by rw [List.set_set]; exact hob2
  have g := number_ok hob3 hpb b.toNat (by omega) (by simp; omega)
  rw [← e] at g
  conv => whnf
  refine ⟨_, _, g, fun e => (nomatch e), ?_⟩
  conv => whnf
  refine ⟨rfl, rfl, ?_⟩
  show ((ob.set id _).set id _).set id (obW (bs ++ [IntKind.u8.wrap a] ++ numB b.toNat)) = _
  rw [List.set_set, List.set_set, List.append_assoc]; rfl
end
end Tree.W11
