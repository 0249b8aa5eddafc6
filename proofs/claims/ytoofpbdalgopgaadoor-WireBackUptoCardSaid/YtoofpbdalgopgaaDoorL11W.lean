/- Layer 11, WireTerms: what E answers. -/
import Derived.Test.YtoofpbdalgopgaaDoorL11V
import Derived.Test.YtoofpbdalgopgaaDoorTLb
import Derived.Test.YtoofpbdalgopgaaDoorTW
set_option autoImplicit false
set_option linter.unusedVariables false
set_option linter.unusedSimpArgs false
namespace Tree.W11
open Go
set_option maxHeartbeats 8000000
set_option maxRecDepth 100000
theorem ok_text {c : C} (h : okC c) : c.text.size ≤ 1000 := by
  have hn : NameP c.text.data.toList → c.text.size ≤ 1000 := by
    intro h
    have := h.2.1
    have e : c.text.size = c.text.data.toList.length := rfl
    omega
  have hs : SignP c.text → c.text.size ≤ 1000 := by
    intro h
    have e : c.text.size = c.text.data.toList.length := rfl
    have key : ∀ l ∈ sgn, l.length ≤ 1000 := by decide
    have := key _ h
    omega
  have he : c.text = emptyS → c.text.size ≤ 1000 := fun h => by rw [h]; exact Nat.zero_le _
  rcases h with h | h | h | h
  · exact he h.2.1
  · exact hn h.2.1
  · rcases h.2.2 with h | h
    · exact hn h.1
    · exact hs h.1
  · exact he h.2.1
theorem cok_of {cs : List C} (h : TermOk cs) : ∀ c ∈ cs, Cok c := by
  intro c hc
  have hk := ((right_walk _).1 h.1.1).2.2.2 c hc
  refine ⟨ok_text hk, fun h1 => ?_, fun h4 => ?_⟩
  · rcases hk with g | g | g | g
    · exact ⟨g.2.2.2.1, g.2.2.2.2⟩
    · omega
    · omega
    · omega
  · have := h.2 c hc h4
    unfold nameOk at this; omega
theorem cell_len {c : C} (h : Cok c) : (cellB c).length ≤ 1022 := by
  have g1 := numB_len c.text.size (by have := h.1; omega)
  have g2 := bytesI_len c.text
  have g0 := h.1
  unfold cellB restB
  rw [List.length_cons]
  split
  · rename_i hk
    have := numB_len (zig c.n) (by have := h.2.1 hk; unfold zig; split <;> omega)
    omega
  · split
    · unfold strB; rw [List.length_append]; omega
    · split
      · unfold strB; rw [List.length_append, List.length_append, List.length_singleton]; omega
      · split
        · rename_i hk
          have := numB_len c.num.toNat (by have := h.2.2 hk; omega)
          unfold nameB; rw [List.length_cons]; omega
        · simp
theorem flat_len {cs : List C} (h : ∀ c ∈ cs, Cok c) : (cs.flatMap cellB).length ≤ 1022 * cs.length := by
  induction cs with
  | nil => simp
  | cons c cs ih =>
    have h1 := cell_len (h c (List.mem_cons_self ..))
    have h2 := ih fun d hd => h d (List.mem_cons_of_mem _ hd)
    rw [List.flatMap_cons, List.length_append, List.length_cons]; omega
def encV (b : Bool) (cs : List C) : LV := if b then .tup [slB false (termB cs), .int .i64 0] else .tup [slB false [], .int .i64 6]
theorem encTerm_ok (cs : List C) (lab : Nat) (sp : List (List LV)) (hl : cs.length ≤ 1048576) (hf : ∀ c ∈ cs, c.fine) (ob : Obs) (pb : Nat) (hpb : pb ≤ ob.length) (r : Bool) (hr : r = true ↔ TermOk cs) : ∃ ob', Gives env11 488 [sl5 false lab cs sp] ob pb (encV r cs, ob') := by
  refine gives_codeE (f := tf488) rfl ?_
  conv => whnf
  refine ⟨_, _, rightTerm_ok cs lab sp (by omega) hf ob _ r hr, fun _ => rfl, ?_⟩
  cases r with
  | false =>
    conv => whnf
    exact ⟨rfl, rfl⟩
  | true =>
    have hT := hr.1 rfl
    have hc := cok_of hT
    have hfl := flat_len hc
    have h256 := hT.1.1.2.1
    have hob : (ob ++ [obW []])[ob.length]? = some (obW []) := by simp
    have hid : ob.length < (ob ++ [obW []]).length := by simp
    conv => whnf
    refine ⟨_, _, term_ok hob hpb cs lab sp (by omega) hc (by omega) (by simp), fun e => (nomatch e), ?_⟩
    conv => whnf
    refine ⟨_, _, ⟨at_set hid, rfl, rfl⟩, ?_⟩
    conv => whnf
    refine .inl ⟨_, _, _, _, ⟨hpb, at_set hid, rfl⟩, ?_⟩
    conv => whnf
    exact ⟨rfl, rfl⟩
theorem encV_noRef (b : Bool) (cs : List C) (n : Nat) : (encV b cs).noRef n = true := by
  unfold encV
  split
  · simp only [LV.noRef, LV.noRefs, noRef_b, LV.noRefss, Bool.and_self]
  · rfl
end Tree.W11
