/- Layer 2: its environment is the program's; lex.number by its contract. -/
import Derived.Test.YtkbpkiebcghghaaDoorTX
import Derived.Test.YtkbpkiebcghghaaDoorL2Chk
import Derived.Test.YtkbpkiebcghghaaDoorTE
import Derived.Test.YtkbpkiebcghghaaDoorExtV
import Derived.Test.YtkbpkiebcghghaaDoorL2Num
set_option autoImplicit false
set_option linter.unusedVariables false
namespace Tree
open Go Go.RowKit Go.Proofs
/-- Behind a call of which only 'Below' is known. -/
theorem below_post {T : Tab} {pb : Nat} {m : Mem} {ob : Obs} {w' : World} (hb : Below m.w.heap.size m.w w') (hO : ObjsOk T ob m) : ∃ m' : Mem, m'.w = w' ∧ Post pb m m' ∧ ObjsOk T ob m' := by
  let mk : Mem := { w := w', k := fun b o => if b < m.w.heap.size then m.k b o else .other, ob := m.ob, n := m.n }
  have hk : ∀ b o, b < m.w.heap.size → mk.k b o = m.k b o := fun b o hlt => if_pos hlt
  have hext : m.ext mk := by
    refine ⟨⟨fun b o l u hc hi => ?_, Nat.le_refl _, fun _ _ => rfl⟩, fun b hlt => hb.block b hlt, hk⟩
    have hlt := cell_lt hc
    refine ⟨by rw [hk b o hlt]; exact hi, ?_⟩
    rw [← hc]; exact World.cell?_of_block (hb.block b hlt)
  have hpost : Post pb m mk := ⟨hb.os, hb.tape, hb.output, hb.size, fun b hlt => .inl (hb.block b hlt), fun b o hlt _ => if_pos hlt, Nat.le_refl _, fun _ _ => rfl, fun _ h1 h2 => absurd h1 (Nat.not_le.2 h2)⟩
  exact ⟨mk, rfl, hpost, hO.ext hext rfl⟩
theorem only2_353 : nuTable2.all (fun e => e.2 != 353 || e.1 == 26) = true := by decide +kernel
theorem num_ext (args : List LV) (r : LV) (ob : Obs) (pb : Nat) (hF : numF args ob = some r) : CallOk tab2 env2r 353 args ob pb r ob := by
  intro f m vals hf hG hA hO
  obtain rfl : f = 26 := fn_only (T := tab2) only2_353 hf
  unfold numF at hF
  split at hF
  · rename_i s
    split at hF
    · rename_i hs
      obtain ⟨hlen, hA⟩ := hA
      obtain ⟨hr, _⟩ := hA 0 _ rfl
      obtain ⟨v0, rfl⟩ : ∃ v0, vals = #[v0] := by
        have : vals.size = 1 := by simpa using hlen.symm
        exact ⟨vals[0], by
          apply Array.ext
          · simp [this]
          · intro i h1 h2
            obtain rfl : i = 0 := by omega
            rfl⟩
      have hr : Rep tab2 m (.str s) v0 := by simpa using hr
      cases hr
      have hrep : ∀ (m' : Mem) (n : Int) (b : Bool), Rep tab2 m' (.tup [.int .i64 n, .bool b]) (.tuple #[.int .i64 n, .bool b]) := fun m' n b => Rep.tup _ _ rfl fun i lv hi => by
        rcases i with _ | _ | i
        · simp at hi; subst hi; exact .int _ _
        · simp at hi; subst hi; exact .bool _
        · simp at hi
      unfold numF0 at hF
      split at hF
      · rename_i v hv
        injection hF with hF; subst hF
        refine Calls.mono (number_ok s hs v hv m.w) (fun e w' he => ?_)
        obtain ⟨rfl, hb⟩ := he
        obtain ⟨m', h1, h2, h3⟩ := below_post (T := tab2) (pb := pb) hb hO
        exact ⟨m', h1, h2, h3, hrep _ _ _, trivial⟩
      · rename_i hv
        injection hF with hF; subst hF
        obtain ⟨l, tp, p, h0, hc⟩ := hG.2 2 (by rfl)
        refine Calls.mono (number_range s hs hv tp p m.w hc) (fun e w' he => ?_)
        obtain ⟨rfl, hb⟩ := he
        obtain ⟨m', h1, h2, h3⟩ := below_post (T := tab2) (pb := pb) hb hO
        exact ⟨m', h1, h2, h3, hrep _ _ _, trivial⟩
      · cases hF
    · cases hF
  · cases hF
theorem env2r_ok : EnvOk tab2 env2r where
  tab := tab2_tab
  mixed := tab2_mixed
  eq := tab2_eq
  code := code_of (fun e he => List.all_eq_true.1 tab2_code e he)
  ext := by
    intro g F hg args r ob pb hF
    obtain ⟨rfl, rfl⟩ := env2r_ext g F hg
    exact num_ext args r ob pb hF
theorem env2z_ok : EnvOk tab2 env2z := frzEnv_ok env2r_ok (by intro g; rfl)
end Tree
