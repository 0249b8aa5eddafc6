/- RefsSafe: a move. -/
import Derived.Test.YtkeadnggllgphaaR16U
set_option autoImplicit false
set_option linter.unusedVariables false
set_option linter.unusedSimpArgs false
namespace Tree.R16
open Go Tree
set_option maxHeartbeats 8000000
set_option maxRecDepth 100000
structure Ws where
  E : Int → Int
  H : Nat → Int
  w : Ways
abbrev WS (a : Nat) (y : Int) (ob : Obs) (S : Ws) (L : Nat) : Prop := WI a y ob S.E S.H S.w L
def comesS (S : Ws) (f t : Nat) : Ws := match S.w f t with
  | [] => S
  | m :: r => ⟨cE S.E f t m, cH S.H f t m, upW S.w f t r⟩
def sendS (S : Ws) (f t : Nat) (m : Nte) : Ws := ⟨S.E, S.H, upW S.w f t (S.w f t ++ [m])⟩
def moveS (S : Ws) (kind : Int) (f t : Nat) : Ws :=
  if f = t then S
  else if kind = 0 then
    (if f = 0 then sendS ⟨upE S.E t 1, S.H, S.w⟩ 0 t (0, 0, 0)
     else if 0 < S.H f then (if t = 0 then sendS S f t (0, 0, 0) else sendS (sendS S f 0 (1, t, 0)) f t (0, 0, 0)) else S)
  else if kind = 1 then (if f = 0 then S else if 0 < S.H f then sendS ⟨S.E, upH S.H f 0, S.w⟩ f 0 (2, 0, S.H f) else S)
  else comesS S f t
structure OkS (S : Ws) : Prop where
  held : ∀ i, 0 ≤ S.H i ∧ S.H i ≤ 1000000
  len : ∀ f t, (S.w f t).length ≤ 1000000
  note : ∀ f t, f < 4 → t < 4 → f ≠ t → ∀ m ∈ S.w f t, okN f t m
theorem WI.send {a : Nat} {y : Int} {ob : Obs} {S : Ws} {L : Nat} (h : WS a y ob S L) (f t : Nat) (hf : f < 4) (ht : t < 4) (m : Nte) (hl : (S.w f t).length ≤ 1099511627776) :
    ∃ ob', (∀ pb, pb ≤ a → Gives env16z 420 [.optr a 0, .int .i64 f, .int .i64 t, .agg (ntr m)] ob pb (.tup [], ob')) ∧ WS a y ob' (sendS S f t m) L ∧ ob'.length = ob.length := by
  obtain ⟨cs, hob, hc⟩ := h.cell
  exact ⟨_, fun pb hpb => send_ok hc f t hf ht m hl ob hob pb hpb, h.setW (hc.put f t hf ht _), by simp⟩
theorem comesS_ok {a : Nat} {y : Int} {ob : Obs} {S : Ws} {L : Nat} (h : WS a y ob S L) (f t : Nat) (hf : f < 4) (ht : t < 4) (hft : f ≠ t) (hS : ∀ m ∈ S.w f t, okN f t m) (pb : Nat) (hpb : pb ≤ a) :
    ∃ ob', Gives env16z 403 [.optr a 0, .agg (nr3 (0, y)), .int .i64 f, .int .i64 t] ob pb (.tup [], ob') ∧ WS a y ob' (comesS S f t) (L + 1) ∧ ob'.length = ob.length := by
  unfold comesS
  cases he : S.w f t with
  | nil => exact ⟨ob, comes0_ok h f t hf ht he pb, h.mono (by omega), rfl⟩
  | cons m r => exact comes_ok h f t hf ht m r he (hS m (by rw [he]; exact List.mem_cons_self ..)) hft pb hpb
def m4 (z : Int) : Nat := (z % 4).toNat
theorem m4_lt (z : Int) : m4 z < 4 := by unfold m4; omega
theorem conv4 (z : Int) : IntKind.i64.wrap ((IntKind.u64.wrap z).tmod 4) = (m4 z : Int) := by
  have e : IntKind.u64.wrap z = z % 18446744073709551616 := by
    simp only [IntKind.wrap, IntKind.bits, IntKind.signed]
    have e : (2 : Int) ^ 64 = 18446744073709551616 := by decide
    simp [e]
  rw [e, Int.tmod_eq_emod_of_nonneg (by omega)]
  unfold m4
  rw [wrap64] <;> omega
theorem do_ok {a : Nat} {y : Int} {ob : Obs} {S : Ws} {L : Nat} (h : WS a y ob S L) (hS : OkS S) (kind fr tt : Int) (pb : Nat) (hpb : pb ≤ a) :
    ∃ ob', Gives env16z 400 [.optr a 0, .agg (nr3 (0, y)), .agg [.int .i64 kind, .int .i64 fr, .int .i64 tt]] ob pb (.tup [], ob') ∧ WS a y ob' (moveS S kind (m4 fr) (m4 tt)) (L + 1) ∧ ob'.length = ob.length := by
  have cf := conv4 fr
  have ct := conv4 tt
  have hf := m4_lt fr
  have ht := m4_lt tt
  generalize m4 fr = f at *
  generalize m4 tt = t at *
  have key : ∃ r0 ob', (r0 = .tup [] ∧ WS a y ob' (moveS S kind f t) (L + 1) ∧ ob'.length = ob.length) ∧ Gives env16z 400 [.optr a 0, .agg (nr3 (0, y)), .agg [.int .i64 kind, .int .i64 fr, .int .i64 tt]] ob pb (r0, ob') := by
    refine gives_codeQ (f := tf400) rfl ?_
    conv => whnf
    refine ⟨by decide, ?_⟩
    conv => whnf
    rw [cf]
    refine ⟨by decide, ?_⟩
    conv => whnf
    rw [ct]
    refine sel_split (fun hq => ?_) (fun hq => ?_)
    · conv => whnf
      have hq : f = t := by have := eq_of_beq hq; omega
      have e1 : moveS S kind f t = S := by unfold moveS; rw [if_pos hq]
      rw [e1]
      exact ⟨rfl, rfl, h.mono (by omega), rfl⟩
    · conv => whnf
      have hq : f ≠ t := by intro e; subst e; simp at hq
      obtain ⟨cs, hob, hc⟩ := h.cell
      have hn := hc.notMap
      have htab0 : partE false (0 + 0 + Int.toNat 0 * 1) 1 cs = some (.optr (a + 3 + 3 * 0) 0) := hc.tab 0 (by omega)
      have hheld : ∀ i : Nat, 1 ≤ i → i < 4 → ∀ pb, Gives env16z 407 [.optr (a + 3 + 3 * i) 0, .agg (nr3 (0, y))] ob pb (.int .i64 (S.H i), ob) := by
        intro i h1 h2 pb
        have g := held_ok (h.ti i h1 h2) (0, y) pb
        have e1 : dH y (S.H i) (((0, y) : NV3).1, ((0, y) : NV3).2, ((0, y) : NV3).1) = S.H i := by unfold dH; rw [if_pos rfl]
        have := hS.held i
        rw [e1, wrap64 (by omega) (by omega)] at g
        have e2 : a + 3 + 3 * i = a + 1 + 3 * i + 2 := by omega
        rw [e2]; exact g
      have htab : ∀ i : Nat, i < 4 → partE false (0 + 0 + (i : Int).toNat * 1) 1 cs = some (.optr (a + 3 + 3 * i) 0) := by
        intro i hi
        have : 0 + 0 + (i : Int).toNat * 1 = i := by omega
        rw [this]; exact hc.tab i hi
      refine sel_split (fun k0 => ?_) (fun k0 => ?_)
      · conv => whnf
        have k0 : kind = 0 := by simpa using k0
        refine sel_split (fun f0 => ?_) (fun f0 => ?_)
        · conv => whnf
          have f0 : f = 0 := by simpa using f0
          subst f0
          refine ⟨by decide, ?_⟩
          conv => whnf
          refine ⟨_, _, ⟨hob, hn, htab0⟩, ?_⟩
          conv => whnf
          obtain ⟨ob2, s1, s2, s3⟩ := sent_ok h.t0 t 0 false [(0, y)] [] (by show 1 ≤ 1099511627776; omega) pb (by omega)
          have e3 : eSent 0 t [(0, y)] = 0 := by
            unfold eSent otherB isB
            rw [decide_eq_true (by omega : 0 ≤ (t : Int)), decide_eq_true (by omega : (t : Int) < 4), show ((t : Int) != 0) = true from by simp; omega]; rfl
          rw [e3, if_pos rfl] at s2
          have h2 : WS a y ob2 ⟨upE S.E t 1, S.H, S.w⟩ (L + 1) := h.set0 (by omega) s3 (s2.congr (fun k => dE_up y S.E _ _ k) fun _ => rfl)
          obtain ⟨ob3, u1, u2, u3⟩ := WI.send h2 0 t (by omega) ht (0, 0, 0) (by have := hS.len 0 t; show (S.w 0 t).length ≤ _; omega)
          refine ⟨_, _, s1, fun h => (nomatch h), ?_⟩
          conv => whnf
          refine ⟨_, _, u1 _ hpb, fun h => (nomatch h), ?_⟩
          conv => whnf
          have e1 : moveS S kind 0 t = sendS ⟨upE S.E t 1, S.H, S.w⟩ 0 t (0, 0, 0) := by unfold moveS; rw [if_neg hq, if_pos k0, if_pos rfl]
          rw [e1]
          exact ⟨rfl, rfl, u2, by rw [u3, s3.1]⟩
        · conv => whnf
          have f0 : f ≠ 0 := by simpa using f0
          refine ⟨by omega, ?_⟩
          conv => whnf
          refine ⟨_, _, ⟨hob, hn, htab f hf⟩, ?_⟩
          conv => whnf
          refine ⟨_, _, hheld f (by omega) hf _, fun _ => rfl, ?_⟩
          conv => whnf
          refine sel_split (fun hp => ?_) (fun hp => ?_)
          · conv => whnf
            have hp : 0 < S.H f := by simpa using hp
            refine sel_split (fun t0 => ?_) (fun t0 => ?_)
            · conv => whnf
              have t0 : t ≠ 0 := by simpa using t0
              obtain ⟨ob2, s1, s2, s3⟩ := WI.send h f 0 hf (by omega) (1, (t : Int), 0) (by have := hS.len f 0; omega)
              obtain ⟨ob3, u1, u2, u3⟩ := WI.send s2 f t hf ht (0, 0, 0) (by
                have := hS.len f t
                show (upW S.w f 0 _ f t).length ≤ _
                unfold upW; rw [if_neg (fun q => t0 q.2)]; omega)
              refine ⟨_, _, s1 _ hpb, fun h => (nomatch h), ?_⟩
              conv => whnf
              refine ⟨_, _, u1 _ hpb, fun h => (nomatch h), ?_⟩
              conv => whnf
              have e1 : moveS S kind f t = sendS (sendS S f 0 (1, t, 0)) f t (0, 0, 0) := by unfold moveS; rw [if_neg hq, if_pos k0, if_neg f0, if_pos hp, if_neg t0]
              rw [e1]
              exact ⟨rfl, rfl, u2.mono (by omega), by rw [u3, s3]⟩
            · conv => whnf
              have t0 : t = 0 := by simpa using t0
              obtain ⟨ob3, u1, u2, u3⟩ := WI.send h f t hf ht (0, 0, 0) (by have := hS.len f t; omega)
              refine ⟨_, _, u1 _ hpb, fun h => (nomatch h), ?_⟩
              conv => whnf
              have e1 : moveS S kind f t = sendS S f t (0, 0, 0) := by unfold moveS; rw [if_neg hq, if_pos k0, if_neg f0, if_pos hp, if_pos t0]
              rw [e1]
              exact ⟨rfl, rfl, u2.mono (by omega), u3⟩
          · conv => whnf
            have hp : ¬ 0 < S.H f := by simpa using hp
            have e1 : moveS S kind f t = S := by unfold moveS; rw [if_neg hq, if_pos k0, if_neg f0, if_neg hp]
            rw [e1]
            exact ⟨rfl, rfl, h.mono (by omega), rfl⟩
      · conv => whnf
        have k0 : kind ≠ 0 := by simpa using k0
        refine sel_split (fun k1 => ?_) (fun k1 => ?_)
        · conv => whnf
          have k1 : kind = 1 := by simpa using k1
          refine sel_split (fun f0 => ?_) (fun f0 => ?_)
          · conv => whnf
            have f0 : f = 0 := by simpa using f0
            have e1 : moveS S kind f t = S := by unfold moveS; rw [if_neg hq, if_neg k0, if_pos k1, if_pos f0]
            rw [e1]
            exact ⟨rfl, rfl, h.mono (by omega), rfl⟩
          · conv => whnf
            have f0 : f ≠ 0 := by simpa using f0
            have e2 : a + 3 + 3 * f = a + 1 + 3 * f + 2 := by omega
            have e4 : dH y (S.H f) (((0, y) : NV3).1, ((0, y) : NV3).2, ((0, y) : NV3).1) = S.H f := by unfold dH; rw [if_pos rfl]
            have hb := hS.held f
            obtain ⟨ob2, s1, s2, s3⟩ := free_ok (h.ti f (by omega) hf) (0, y) pb (by omega)
            rw [e4, wrap64 (by omega) (by omega)] at s1 s2
            rw [← e2] at s1
            refine ⟨by omega, ?_⟩
            conv => whnf
            refine ⟨_, _, ⟨hob, hn, htab f hf⟩, ?_⟩
            conv => whnf
            refine ⟨_, _, s1, fun h => (nomatch h), ?_⟩
            conv => whnf
            refine sel_split (fun hp => ?_) (fun hp => ?_)
            · conv => whnf
              have hp : 0 < S.H f := by simpa using hp
              rw [if_pos hp] at s2
              have h2 : WS a y ob2 ⟨S.E, upH S.H f 0, S.w⟩ (L + 1) := h.setI (by omega) f (by omega) hf 0 s3 ((s2.congr (fun _ => rfl) fun k => dH_off y _ k).mono (by omega))
              obtain ⟨ob3, u1, u2, u3⟩ := WI.send h2 f 0 hf (by omega) (2, 0, S.H f) (by have := hS.len f 0; show (S.w f 0).length ≤ _; omega)
              refine ⟨_, _, u1 _ hpb, fun h => (nomatch h), ?_⟩
              conv => whnf
              have e1 : moveS S kind f t = sendS ⟨S.E, upH S.H f 0, S.w⟩ f 0 (2, 0, S.H f) := by unfold moveS; rw [if_neg hq, if_neg k0, if_pos k1, if_neg f0, if_pos hp]
              rw [e1]
              exact ⟨rfl, rfl, u2, by rw [u3, s3.1]⟩
            · conv => whnf
              have hp : ¬ 0 < S.H f := by simpa using hp
              rw [if_neg hp] at s2
              have e1 : moveS S kind f t = S := by unfold moveS; rw [if_neg hq, if_neg k0, if_pos k1, if_neg f0, if_neg hp]
              rw [e1]
              have h2 := h.setI (L' := L + 1) (by omega) f (by omega) hf (S.H f) s3 (s2.mono (by omega))
              have e5 : upH S.H f (S.H f) = S.H := by
                funext i; unfold upH; by_cases e : i = f
                · rw [if_pos e, e]
                · rw [if_neg e]
              rw [e5] at h2
              exact ⟨rfl, rfl, h2, s3.1⟩
        · conv => whnf
          have k1 : kind ≠ 1 := by simpa using k1
          have e1 : moveS S kind f t = comesS S f t := by unfold moveS; rw [if_neg hq, if_neg k0, if_neg k1]
          rw [e1]
          obtain ⟨ob2, s1, s2, s3⟩ := comesS_ok h f t hf ht hq (hS.note f t hf ht hq) pb hpb
          refine ⟨_, _, s1, fun h => (nomatch h), ?_⟩
          conv => whnf
          exact ⟨rfl, rfl, s2, s3⟩
  obtain ⟨r0, ob', ⟨rfl, h5, h6⟩, h7⟩ := key
  exact ⟨ob', h7, h5, h6⟩
end Tree.R16
