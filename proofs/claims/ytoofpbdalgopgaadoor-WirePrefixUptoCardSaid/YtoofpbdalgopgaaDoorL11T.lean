/- Layer 11: texts and names as bytes. -/
import Derived.Test.YtoofpbdalgopgaaDoorL11N2
set_option autoImplicit false
set_option linter.unusedVariables false
set_option linter.unusedSimpArgs false
namespace Tree.W11
open Go
set_option maxHeartbeats 8000000
set_option maxRecDepth 100000
def bytesI (s : ByteArray) : List Int := s.data.toList.map fun b => ((b.toNat : Nat) : Int)
def strB (s : ByteArray) : List Int := numB s.size ++ bytesI s
def nameB (a b : Int) : List Int := IntKind.u8.wrap a :: numB b.toNat
theorem bytesI_len (s : ByteArray) : (bytesI s).length = s.size := by
  unfold bytesI; rw [List.length_map]; rfl
theorem bytes_rows (s : ByteArray) : (s.data.toList.map fun b => ([.int .u8 b.toNat] : List LV)) = (bytesI s).map brw := by
  unfold bytesI; rw [List.map_map]; rfl
theorem noRef_b (n : Nat) : ∀ l : List Int, LV.noRefss n (l.map brw) = true
  | [] => by simp [LV.noRefss]
  | c :: l => by
    have ih := noRef_b n l
    simp [List.map_cons, LV.noRefss, ih, brw, LV.noRefs, LV.noRef]
section
variable {ob : Obs} {id pb : Nat} {bs : List Int} (hob : ob[id]? = some (obW bs)) (hpb : pb ≤ id)
include hob hpb
theorem text_ok (s : ByteArray) (hs : s.size ≤ 4294967296) (hb : bs.length ≤ 2147483648) : Gives env11 514 [.optr id 0, .str s] ob pb (.tup [], ob.set id (obW (bs ++ strB s))) := by
  have h1 := numB_len s.size (by omega)
  have h2 := bytesI_len s
  have hob2 : (ob.set id (obW (bs ++ numB s.size)))[id]? = some (obW (bs ++ numB s.size)) := set_at hob
  refine gives_code (f := tf514) rfl ?_
  conv => whnf
  refine ⟨_, _, number_ok hob hpb s.size (by omega) (by omega), fun e => (nomatch e), ?_⟩
  conv => whnf
  refine ⟨_, _, ⟨hob2, rfl, rfl⟩, ?_⟩
  conv => whnf
  refine ⟨_, _, _, _, ⟨hpb, hob2, rfl⟩, ?_⟩
  conv => whnf
  refine ⟨(bs ++ strB s).map brw, ⟨.inl rfl, ?_, ?_⟩, ?_⟩
  · show (((bs ++ numB s.size).map brw).length + (s.data.toList.map _).length) * 1 ≤ _
    rw [List.length_map, List.length_map, List.length_append]
    have : s.data.toList.length = s.size := rfl
    omega
  · unfold strB; rw [← List.append_assoc, List.map_append (l₁ := bs ++ numB s.size), ← bytes_rows]
  conv => whnf
  refine ⟨_, obW (bs ++ strB s), ⟨hpb, by rw [set_at hob2], rfl, rfl⟩, ?_⟩
  conv => whnf
  refine ⟨rfl, rfl, ?_⟩
  show ((ob.set id _).set id _).set id _ = _
  rw [List.set_set, List.set_set]
theorem name_ok (a b : Int) (h0 : 0 ≤ b) (hb2 : b < 9223372036854775808) (hb : bs.length ≤ 2147483648) : Gives env11 495 [.optr id 0, .agg [.int .i64 a, .int .i64 b]] ob pb (.tup [], ob.set id (obW (bs ++ nameB a b))) := by
  have h1 := numB_len b.toNat (by omega)
  have e : b = ((b.toNat : Nat) : Int) := by omega
  have hob2 : (ob.set id (obW (bs ++ [IntKind.u8.wrap a])))[id]? = some (obW (bs ++ [IntKind.u8.wrap a])) := set_at hob
  refine gives_code (f := tf495) rfl ?_
  conv => whnf
  refine ⟨_, _, ⟨hob, rfl, rfl⟩, ?_⟩
  conv => whnf
  refine ⟨_, _, _, _, ⟨hpb, hob, rfl⟩, ?_⟩
  conv => whnf
  refine ⟨(bs ++ [IntKind.u8.wrap a]).map brw, ⟨.inl rfl, ?_, by rw [List.map_append]; rfl⟩, ?_⟩
  · show ((bs.map brw).length + 1) * 1 ≤ _
    rw [List.length_map]; omega
  conv => whnf
  refine ⟨_, obW (bs ++ [IntKind.u8.wrap a]), ⟨hpb, by rw [set_at hob], rfl, rfl⟩, ?_⟩
  have hob3 : ((ob.set id ((obW bs).modify (0 + 0) LV.bare1)).set id (obW (bs ++ [IntKind.u8.wrap a])))[id]? = some (obW (bs ++ [IntKind.u8.wrap a])) := by rw [List.set_set]; exact hob2
  have g := number_ok hob3 hpb b.toNat (by omega) (by simp; omega)
  rw [← e] at g
  conv => whnf
  refine ⟨_, _, g, fun e => (nomatch e), ?_⟩
  conv => whnf
  refine ⟨rfl, rfl, ?_⟩
  show ((ob.set id _).set id _).set id (obW (bs ++ [IntKind.u8.wrap a] ++ numB b.toNat)) = _
  rw [List.set_set, List.set_set, List.append_assoc]; rfl
end
end Tree.W11
