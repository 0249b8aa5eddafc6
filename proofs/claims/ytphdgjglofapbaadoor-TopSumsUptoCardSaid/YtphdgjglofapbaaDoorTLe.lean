/- Layer 6: reckoning with numbers, by the program and by the document. -/
import Derived.Test.YtphdgjglofapbaaDoorL6Live
import Derived.Test.YtphdgjglofapbaaDoorTW
import Derived.Test.YtphdgjglofapbaaDoorTLa
set_option autoImplicit false
set_option linter.unusedVariables false
set_option linter.unusedSimpArgs false
namespace Tree
open Go
set_option maxHeartbeats 4000000
set_option maxRecDepth 100000
def zrow (n : Int) : List LV := [.int .i64 n]
def zsl (o : Bool) (lab : Nat) (l : List Int) (sp : List (List LV)) : LV := .sl o lab 1 (l.map zrow) sp
def mayI (n : Int) : Bool := decide (-2147483648 ≤ n) && decide (n ≤ 2147483648)
theorem mayI_iff {n : Int} : mayI n = true ↔ -2147483648 ≤ n ∧ n ≤ 2147483648 := by simp [mayI]
theorem idx_z {l : List Int} {i : Nat} {n : Int} (h : l[i]? = some n) : (l.map zrow)[i]? = some [.int .i64 n] := by
  rw [List.getElem?_map, h]; rfl
theorem may_ok (n : Int) (ob : Obs) (pb : Nat) : Gives env6 245 [.int .i64 n] ob pb (.bool (mayI n), ob) := by
  refine gives_code (f := tf245) rfl ?_
  conv => whnf
  repeat' (refine sel_split (fun _ => ?_) (fun _ => ?_) <;> conv => whnf)
  all_goals
    refine ⟨rfl, bool_of mayI_iff ?_, rfl⟩
    simp only [decide_eq_true_eq, decide_eq_false_iff_not] at *
    first | omega | (simp; omega)
theorem not_ok (n : Int) (ob : Obs) (pb : Nat) : Gives env6 242 [.int .i64 n] ob pb (.bool (!mayI n), ob) := by
  refine gives_code (f := tf242) rfl ?_
  conv => whnf
  refine ⟨_, _, may_ok n _ _, fun _ => rfl, ?_⟩
  conv => whnf
  exact ⟨rfl, rfl, rfl⟩
theorem idx263 (o : Bool) (lab : Nat) (l : List Int) (sp : List (List LV)) (hl : l.length ≤ 4611686018427387904) (ob : Obs) (pb : Nat) : ∃ r : Int, (0 ≤ r ↔ ∃ n ∈ l, mayI n = false) ∧ Gives env6 263 [zsl o lab l sp, .fn 242 []] ob pb (.int .i64 r, ob) := by
  obtain ⟨r, hr⟩ : ∃ r : Int, r = match l.findIdx? (fun n => !mayI n) with | some i => (i : Int) | none => -1 := ⟨_, rfl⟩
  refine ⟨r, ?_, ?_⟩
  · rw [hr]
    cases hf : l.findIdx? (fun n => !mayI n) with
    | none =>
      rw [List.findIdx?_eq_none_iff] at hf
      simp only [show ¬ (0 : Int) ≤ -1 by omega, false_iff]
      rintro ⟨n, hn, h⟩
      have := hf n hn; simp [h] at this
    | some i =>
      obtain ⟨h1, h2, h3⟩ := List.findIdx?_eq_some_iff_getElem.1 hf
      simp only [show (0 : Int) ≤ (i : Int) by omega, true_iff]
      exact ⟨l[i], List.getElem_mem h1, by simpa using h2⟩
  · have hlen : (l.map zrow).length = l.length := by simp
    refine gives_code (f := tf263) rfl ?_
    conv => whnf
    refine loop_v (V := fun i : Nat => [(8, .int .i64 i)]) (O := fun _ => ob) (m := fun i => l.length - i) (P := fun i => i ≤ l.length ∧ ∀ n ∈ l.take i, mayI n = true) ?_ 0 ⟨Nat.zero_le _, by simp⟩ rfl
    rintro R i ⟨hi, hb⟩ hN hE hR
    conv => whnf
    refine sel_split (fun h => ?_) (fun h => ?_)
    · conv => whnf
      have h := of_decide_eq_true h
      rw [hlen] at h
      obtain ⟨n, hg⟩ : ∃ n, l[i]? = some n := ⟨_, List.getElem?_eq_getElem (show i < l.length by omega)⟩
      have e : IntKind.i64.wrap ((i : Int) + 1) = ((i + 1 : Nat) : Int) := by rw [wrap64] <;> omega
      refine ⟨_, ⟨by omega, idx_z hg⟩, ?_⟩
      conv => whnf
      refine ⟨_, _, not_ok n _ _, fun _ => rfl, ?_⟩
      conv => whnf
      refine sel_split (fun h2 => ?_) (fun h2 => ?_)
      · conv => whnf
        refine hR _ ?_
        conv => whnf
        refine ⟨rfl, ?_, rfl⟩
        have : l.findIdx? (fun n => !mayI n) = some i := by
          rw [List.findIdx?_eq_some_iff_getElem]
          obtain ⟨g1, g2⟩ := List.getElem?_eq_some_iff.1 hg
          refine ⟨g1, by rw [g2]; exact h2, fun j hj => ?_⟩
          have : l[j] ∈ l.take i := by rw [List.mem_take_iff_getElem]; exact ⟨j, by omega, rfl⟩
          simp [hb _ this]
        rw [hr, this]; rfl
      · conv => whnf
        refine hN (i + 1) _ ⟨by omega, fun x hx => ?_⟩ (by omega) ?_
        · rw [List.take_add_one, hg] at hx
          rcases List.mem_append.1 hx with hx | hx
          · exact hb x hx
          · simp at hx; subst hx; simpa using h2
        · rw [← e]; rfl
    · conv => whnf
      have h := of_decide_eq_false h
      rw [hlen] at h
      have : i = l.length := by omega
      subst this
      rw [List.take_length] at hb
      refine hE _ _ ?_
      conv => whnf
      refine ⟨rfl, ?_, rfl⟩
      have : l.findIdx? (fun n => !mayI n) = none := by
        rw [List.findIdx?_eq_none_iff]; intro x hx; simp [hb x hx]
      rw [hr, this]; rfl
theorem any241 (o : Bool) (lab : Nat) (l : List Int) (sp : List (List LV)) (hl : l.length ≤ 4611686018427387904) (ob : Obs) (pb : Nat) : Gives env6 241 [zsl o lab l sp, .fn 242 []] ob pb (.bool (l.any fun n => !mayI n), ob) := by
  obtain ⟨r, h1, h2⟩ := idx263 false lab l sp hl ob (max pb ob.length)
  refine gives_code (f := tf241) rfl ?_
  conv => whnf
  refine ⟨_, _, h2, fun _ => rfl, ?_⟩
  conv => whnf
  refine ⟨rfl, bool_of (P := ∃ n ∈ l, mayI n = false) (by simp) ?_, rfl⟩
  rw [decide_eq_true_eq]
  exact h1
theorem fdiv_tdiv (a b : Int) (h0 : b ≠ 0) : a.fdiv b = if a.tmod b ≠ 0 ∧ ¬((a < 0) ↔ (b < 0)) then a.tdiv b - 1 else a.tdiv b := by
  rw [Int.tdiv_eq_ediv, Int.fdiv_eq_ediv]
  have hd : b ∣ a ↔ a.tmod b = 0 := Int.dvd_iff_tmod_eq_zero
  by_cases h : a.tmod b = 0
  · have h' := hd.2 h
    simp [h, h']
  · have h' : ¬ b ∣ a := fun x => h (hd.1 x)
    simp only [h, h', or_false, ne_eq, not_false_eq_true, true_and]
    rcases Int.lt_or_gt_of_ne h0 with hb | hb
    · rw [Int.sign_eq_neg_one_of_neg hb]
      have hn : ¬ 0 ≤ b := by omega
      simp only [if_neg hn]
      by_cases ha : 0 ≤ a
      · simp only [if_pos ha]
        rw [if_pos (by simp [hb]; omega)]; omega
      · simp only [if_neg ha]
        rw [if_neg (by simp [hb]; omega)]; omega
    · rw [Int.sign_eq_one_of_pos hb]
      have hn : 0 ≤ b := by omega
      simp only [if_pos hn]
      by_cases ha : 0 ≤ a
      · simp only [if_pos ha]
        rw [if_neg (by omega)]; omega
      · simp only [if_neg ha]
        rw [if_pos (by omega)]; omega
theorem floor_ok (a b : Int) (ha : mayI a = true) (hb : mayI b = true) (h0 : b ≠ 0) (ob : Obs) (pb : Nat) : Gives env6 244 [.int .i64 a, .int .i64 b] ob pb (.int .i64 (a.fdiv b), ob) := by
  rw [mayI_iff] at ha hb
  have hq : IntKind.i64.wrap (a.tdiv b) = a.tdiv b ∧ IntKind.i64.wrap (a.tdiv b - 1) = a.tdiv b - 1 := by
    have h1 : (a.tdiv b).natAbs ≤ a.natAbs := by rw [Int.natAbs_tdiv]; exact Nat.div_le_self _ _
    constructor <;> rw [wrap64] <;> omega
  refine gives_code (f := tf244) rfl ?_
  conv => whnf
  refine ⟨h0, ?_⟩
  conv => whnf
  refine ⟨h0, ?_⟩
  conv => whnf
  have fd := fdiv_tdiv a b h0
  rw [fd, hq.1]
  repeat' (refine sel_split (fun _ => ?_) (fun _ => ?_) <;> conv => whnf)
  all_goals
    refine ⟨rfl, ?_, rfl⟩
    simp only [bne_iff_ne, ne_eq, beq_iff_eq, bne_eq_false_iff_eq, Bool.not_eq_true', Bool.not_eq_false', beq_eq_false_iff_ne, decide_eq_true_eq, decide_eq_false_iff_not, decide_eq_decide] at *
    show LV.int .i64 _ = LV.int .i64 _
    congr 1
    first
      | (rw [hq.2, if_pos ⟨‹_›, ‹_›⟩]; done)
      | (rw [if_neg]; simp_all)
theorem abs_u64 {n : Int} (h : mayI n = true) : IntKind.i64.wrap (0 - n) = -n ∧ IntKind.u64.wrap (n.natAbs : Int) = (n.natAbs : Int) ∧ (if n < -n then -n else n) = (n.natAbs : Int) := by
  rw [mayI_iff] at h
  refine ⟨by rw [wrap64] <;> omega, ?_, by split <;> omega⟩
  rw [IntKind.wrap_u64]; omega
theorem size264 (n : Int) (h : mayI n = true) (ob : Obs) (pb : Nat) : Gives env6 264 [.int .i64 n] ob pb (.int .u64 (n.natAbs : Int), ob) := by
  obtain ⟨h1, h2, h3⟩ := abs_u64 h
  refine gives_code (f := tf264) rfl ?_
  conv => whnf
  refine ⟨rfl, ?_, rfl⟩
  show LV.int .u64 (IntKind.u64.wrap (if n < IntKind.i64.wrap (0 - n) then IntKind.i64.wrap (0 - n) else n)) = _
  rw [h1, h3, h2]
theorem prod_ok (a b : Int) (ha : mayI a = true) (hb : mayI b = true) (ob : Obs) (pb : Nat) : Gives env6 243 [.int .i64 a, .int .i64 b] ob pb (.tup [.int .i64 (if mayI (a * b) then a * b else 0), .bool (mayI (a * b))], ob) := by
  have ha' := mayI_iff.1 ha
  have hb' := mayI_iff.1 hb
  obtain ⟨A, hA⟩ : ∃ A : Nat, A = a.natAbs := ⟨_, rfl⟩
  obtain ⟨B, hB⟩ : ∃ B : Nat, B = b.natAbs := ⟨_, rfl⟩
  have hAB : A * B = (a * b).natAbs := by rw [hA, hB, Int.natAbs_mul]
  have hAl : A ≤ 2147483648 := by omega
  have hBl : B ≤ 2147483648 := by omega
  have hm : A * B ≤ 2147483648 * 2147483648 := Nat.mul_le_mul hAl hBl
  have hABi : (A : Int) * (B : Int) = ((A * B : Nat) : Int) := by simp
  refine gives_code (f := tf243) rfl ?_
  conv => whnf
  refine ⟨_, _, size264 a ha _ _, fun _ => rfl, ?_⟩
  conv => whnf
  refine ⟨_, _, size264 b hb _ _, fun _ => rfl, ?_⟩
  conv => whnf
  rw [← hA, ← hB]
  refine ⟨_, _, gives_ext (F := mul64F) (r := .tup [.int .u64 0, .int .u64 ((A * B : Nat) : Int)]) rfl ?_, fun _ => rfl, ?_⟩
  · simp only [mul64F, mul64F0]
    have e1 : (A : Int) * (B : Int) / 18446744073709551616 = 0 := by rw [hABi]; omega
    have e2 : (A : Int) * (B : Int) % 18446744073709551616 = ((A * B : Nat) : Int) := by rw [hABi]; omega
    rw [if_pos (by omega), e1, e2]
  conv => whnf
  refine sel_split (fun h => ?_) (fun h => ?_)
  · conv => whnf
    have h := of_decide_eq_true h
    have : mayI (a * b) = false := by
      rw [Bool.eq_false_iff]; intro hh; rw [mayI_iff] at hh; omega
    rw [this]
    exact ⟨rfl, rfl, rfl⟩
  · conv => whnf
    have h := of_decide_eq_false h
    have : mayI (a * b) = true := by rw [mayI_iff]; omega
    rw [this]
    refine ⟨rfl, ?_, rfl⟩
    show LV.tup [.int .i64 (IntKind.i64.wrap (a * b)), _] = _
    rw [wrap64 (by omega) (by omega)]; rfl
end Tree

set_option autoImplicit false
set_option linter.unusedVariables false
set_option linter.unusedSimpArgs false
namespace Tree
open Go
set_option maxHeartbeats 8000000
set_option maxRecDepth 100000
def finI (n : Int) : Int × Bool := if mayI n then (n, true) else (0, false)
def bAbs : ByteArray := ⟨#[97, 98, 115]⟩
def bAdd : ByteArray := ⟨#[43]⟩
def bSub : ByteArray := ⟨#[45]⟩
def bMul : ByteArray := ⟨#[42]⟩
def bMin : ByteArray := ⟨#[109, 105, 110]⟩
def bMax : ByteArray := ⟨#[109, 97, 120]⟩
def bDiv : ByteArray := ⟨#[100, 105, 118]⟩
def bMod : ByteArray := ⟨#[109, 111, 100]⟩
def two (op : ByteArray) (a b : Int) : Int × Bool :=
  if op = bAdd then finI (a + b) else if op = bSub then finI (a - b) else if op = bMul then finI (a * b) else if op = bMin then finI (min a b) else if op = bMax then finI (max a b)
  else if op = bDiv then (if b = 0 then (0, false) else finI (a.fdiv b)) else if op = bMod then (if b = 0 then (0, false) else finI (a.fmod b)) else (0, false)
def reckonS (op : ByteArray) (l : List Int) : Int × Bool :=
  if l.any (fun n => !mayI n) then (0, false) else match l with
  | [a] => if op = bAbs then finI a.natAbs else (0, false)
  | [a, b] => two op a b
  | _ => (0, false)
def recV (r : Int × Bool) : LV := .tup [.int .i64 r.1, .bool r.2]
theorem reckon_many {op : ByteArray} {l : List Int} (h1 : l.length ≠ 1) (h2 : l.length ≠ 2) : reckonS op l = (0, false) := by
  unfold reckonS
  split
  · rfl
  · split
    · simp at h1
    · simp at h2
    · rfl
theorem reckon_bad {op : ByteArray} {l : List Int} (h : l.any (fun n => !mayI n) = true) : reckonS op l = (0, false) := by
  unfold reckonS; rw [if_pos h]
theorem res2 {x : Int} {q : Bool} {r : Int × Bool} (h : (x, q) = r) : tupE [LV.int .i64 x, LV.bool q] = recV r := by subst h; rfl

theorem fmod_bound (a b : Int) (h0 : b ≠ 0) : (0 < b ∧ 0 ≤ a.fmod b ∧ a.fmod b < b) ∨ (b < 0 ∧ b < a.fmod b ∧ a.fmod b ≤ 0) := by
  have e := Int.mul_fdiv_add_fmod a b
  have e2 := Int.mul_ediv_add_emod a b
  have e3 := Int.emod_nonneg a h0
  rw [Int.fdiv_eq_ediv] at e
  rcases Int.lt_or_gt_of_ne h0 with hb | hb
  · right
    have e4 := Int.emod_lt_of_neg a hb
    by_cases hd : b ∣ a
    · have e5 : a % b = 0 := Int.emod_eq_zero_of_dvd hd
      rw [if_pos (.inr hd), Int.sub_zero] at e
      omega
    · have e5 : a % b ≠ 0 := fun h => hd (Int.dvd_of_emod_eq_zero h)
      rw [if_neg (by simp [hd]; omega), Int.mul_sub, Int.mul_one] at e
      omega
  · left
    have e4 := Int.emod_lt_of_pos a hb
    rw [if_pos (.inl (by omega)), Int.sub_zero] at e
    omega
theorem reckon1 (op : ByteArray) (a : Int) (ha : mayI a = true) (o : Bool) (lab : Nat) (sp : List (List LV)) (ob : Obs) (pb : Nat) : Gives env6 222 [.str op, zsl o lab [a] sp] ob pb (recV (reckonS op [a]), ob) := by
  have ha' := mayI_iff.1 ha
  have hs : reckonS op [a] = if op = bAbs then finI a.natAbs else (0, false) := by simp [reckonS, ha]
  rw [hs]
  have hany := fun pb => any241 false lab [a] sp (by simp) ob pb
  have e0 : ([a].any fun n => !mayI n) = false := by simp [ha]
  simp only [e0] at hany
  have e1 : (if a < IntKind.i64.wrap (0 - a) then IntKind.i64.wrap (0 - a) else a) = (a.natAbs : Int) := by
    rw [(abs_u64 ha).1]; exact (abs_u64 ha).2.2
  refine gives_code (f := tf222) rfl ?_
  conv => whnf
  refine ⟨_, _, hany _, fun _ => rfl, ?_⟩
  conv => whnf
  repeat' first
    | (refine sel_split (fun _ => ?_) (fun _ => ?_) <;> conv => whnf)
    | (refine ⟨_, ⟨by omega, rfl⟩, ?_⟩; conv => whnf)
    | (refine ⟨_, _, may_ok _ _ _, fun _ => rfl, ?_⟩; conv => whnf)
  all_goals
    refine ⟨rfl, res2 ?_, rfl⟩
    simp only [e1, beq_iff_eq, beq_eq_false_iff_ne, ne_eq, bytes_eq, Bool.not_eq_true', Bool.not_eq_false', decide_eq_true_eq, decide_eq_false_iff_not] at *
    first
      | grind [finI, bAbs]
theorem reckon2 (op : ByteArray) (a b : Int) (ha : mayI a = true) (hb : mayI b = true) (o : Bool) (lab : Nat) (sp : List (List LV)) (ob : Obs) (pb : Nat) : Gives env6 222 [.str op, zsl o lab [a, b] sp] ob pb (recV (reckonS op [a, b]), ob) := by
  have ha' := mayI_iff.1 ha
  have hb' := mayI_iff.1 hb
  have hs : reckonS op [a, b] = two op a b := by simp [reckonS, ha, hb]
  rw [hs]
  have hany := fun pb => any241 false lab [a, b] sp (by simp) ob pb
  have e0 : ([a, b].any fun n => !mayI n) = false := by simp [ha, hb]
  simp only [e0] at hany
  have w1 : IntKind.i64.wrap (a + b) = a + b := by rw [wrap64] <;> omega
  have w2 : IntKind.i64.wrap (a - b) = a - b := by rw [wrap64] <;> omega
  have w3 : b ≠ 0 → IntKind.i64.wrap (a - IntKind.i64.wrap (b * a.fdiv b)) = a.fmod b := by
    intro h0
    have e := Int.mul_fdiv_add_fmod a b
    have hf := fmod_bound a b h0
    have e2 : b * a.fdiv b = a - a.fmod b := by omega
    have w4 : IntKind.i64.wrap (a - a.fmod b) = a - a.fmod b := by rw [wrap64] <;> omega
    rw [e2, w4, show a - (a - a.fmod b) = a.fmod b by omega, wrap64] <;> omega
  refine gives_code (f := tf222) rfl ?_
  conv => whnf
  refine ⟨_, _, hany _, fun _ => rfl, ?_⟩
  conv => whnf
  repeat' first
    | (refine sel_split (fun _ => ?_) (fun _ => ?_) <;> conv => whnf)
    | (refine ⟨_, ⟨by omega, rfl⟩, ?_⟩; conv => whnf)
    | (refine ⟨_, _, may_ok _ _ _, fun _ => rfl, ?_⟩; conv => whnf)
    | (refine ⟨_, _, prod_ok a b ha hb _ _, fun _ => rfl, ?_⟩; conv => whnf)
    | (refine ⟨_, _, floor_ok a b ha hb (by simp_all) _ _, fun _ => rfl, ?_⟩; conv => whnf)
  all_goals
    refine ⟨rfl, res2 ?_, rfl⟩
    simp only [w1, w2, beq_iff_eq, beq_eq_false_iff_ne, ne_eq, bytes_eq, Bool.not_eq_true', Bool.not_eq_false', decide_eq_true_eq, decide_eq_false_iff_not] at *
    first
      | grind [finI, bAbs, two, bAdd, bSub, bMul, bDiv, bMod, bMin, bMax]
theorem reckon_ok (op : ByteArray) (l : List Int) (hl : l.length ≤ 4611686018427387904) (o : Bool) (lab : Nat) (sp : List (List LV)) (ob : Obs) (pb : Nat) : Gives env6 222 [.str op, zsl o lab l sp] ob pb (recV (reckonS op l), ob) := by
  by_cases hbad : l.any (fun n => !mayI n) = true
  · rw [reckon_bad hbad]
    have hany := fun pb => any241 false lab l sp hl ob pb
    simp only [hbad] at hany
    refine gives_code (f := tf222) rfl ?_
    conv => whnf
    refine ⟨_, _, hany _, fun _ => rfl, ?_⟩
    conv => whnf
    exact ⟨rfl, rfl, rfl⟩
  · have hbad : l.any (fun n => !mayI n) = false := by simpa using hbad
    have hmay : ∀ n ∈ l, mayI n = true := by
      intro n hn
      have := List.any_eq_false.1 hbad n hn
      simpa using this
    match l, hl, hbad, hmay with
    | [a], _, _, hmay => exact reckon1 op a (hmay a (by simp)) o lab sp ob pb
    | [a, b], _, _, hmay => exact reckon2 op a b (hmay a (by simp)) (hmay b (by simp)) o lab sp ob pb
    | [], hl, hbad, _ =>
      rw [reckon_many (by simp) (by simp)]
      have hany := fun pb => any241 false lab [] sp hl ob pb
      refine gives_code (f := tf222) rfl ?_
      conv => whnf
      refine ⟨_, _, hany _, fun _ => rfl, ?_⟩
      conv => whnf
      repeat' (refine sel_split (fun _ => ?_) (fun _ => ?_) <;> conv => whnf)
      all_goals first
        | exact ⟨rfl, rfl, rfl⟩
        | (exfalso; simp_all; done)
    | a :: b :: c :: r, hl, hbad, _ =>
      rw [reckon_many (by simp) (by simp)]
      have hany := fun pb => any241 false lab (a :: b :: c :: r) sp hl ob pb
      simp only [hbad] at hany
      have hlen : ((a :: b :: c :: r).map zrow).length = r.length + 3 := by simp
      refine gives_code (f := tf222) rfl ?_
      conv => whnf
      refine ⟨_, _, hany _, fun _ => rfl, ?_⟩
      conv => whnf
      repeat' (refine sel_split (fun _ => ?_) (fun _ => ?_) <;> conv => whnf)
      all_goals first
        | exact ⟨rfl, rfl, rfl⟩
        | (exfalso; simp_all; omega)
end Tree
