/- Each operation of the evaluator is the model's: all together. -/
import Derived.Test.YtfndbddlicbjpaaMevOpsM

set_option linter.unusedVariables false
namespace Mev
open Go (Value World Addr Obj Program Operand Op Oper Act Result Next undef Sem Builtin)

section
variable {P : Program} {a : Act} {T : Env} {S : St} {w : World} {φ : Phi}

theorem bind_some {α β : Type} {x : Option α} {f : α → Option β} {b : β} (h : x.bind f = some b) : ∃ a, x = some a ∧ f a = some b := Option.bind_eq_some_iff.1 h

theorem sim_op (hs : Sim φ S w) (ht : TR (Wr φ S.get) w φ T a) {o : Oper} {c : CO} (hc : compOp P o.op = some c) {v : V} {S' : St} (h : evOp T S c = some (v, S')) : Good φ S w ((Go.execOp a.eval o).run P w) v S' := by
  cases hop : o.op with
  | move x =>
    rw [hop] at hc
    obtain ⟨y, hy, rfl⟩ := Option.map_eq_some_iff.1 hc
    cases h; exact sim_mv hs ht hy (.inl hop)
  | assign x =>
    rw [hop] at hc
    obtain ⟨y, hy, rfl⟩ := Option.map_eq_some_iff.1 hc
    cases h; exact sim_mv hs ht hy (.inr hop)
  | pick c a b =>
    rw [hop] at hc
    obtain ⟨c', h1, hc⟩ := bind_some hc
    obtain ⟨a', h2, hc⟩ := bind_some hc
    obtain ⟨b', h3, hc⟩ := bind_some hc
    cases hc; exact sim_pick hs ht h1 h2 h3 hop h
  | alloc t =>
    rw [hop] at hc
    obtain ⟨z, hz, rfl⟩ := Option.map_eq_some_iff.1 hc
    cases h; exact sim_alloc hs hz hop (mt := []) rfl
  | box t x =>
    rw [hop] at hc
    obtain ⟨n, h1, hc⟩ := bind_some hc
    obtain ⟨x', h2, hc⟩ := bind_some hc
    cases hc; exact sim_box hs ht h2 h1 hop h
  | build t ps =>
    rw [hop] at hc
    simp only [compOp] at hc
    split at hc
    · rename_i z place h1 h2
      obtain ⟨ps', h3, rfl⟩ := Option.map_eq_some_iff.1 hc
      exact sim_build hs ht h1 h2 h3 hop h
    · cases hc
  | buildSlice t n ps =>
    rw [hop] at hc
    obtain ⟨z, h1, hc⟩ := bind_some hc
    obtain ⟨e, h0, h1⟩ := bind_some h1
    split at hc
    · rename_i hn
      obtain ⟨ps', h3, hc⟩ := bind_some hc
      cases hc
      exact sim_bslice hs ht h0 h1 hn h3 hop h
    · cases hc
  | load t p =>
    rw [hop] at hc
    obtain ⟨ag, h1, hc⟩ := bind_some hc
    obtain ⟨n, h2, hc⟩ := bind_some hc
    obtain ⟨p', h3, hc⟩ := bind_some hc
    cases hc
    simp only [evOp] at h
    obtain ⟨v', h4, h5⟩ := Option.map_eq_some_iff.1 h
    cases h5
    exact sim_load hs ht h3 h1 h2 hop h4
  | store t p x =>
    rw [hop] at hc
    obtain ⟨n, h2, hc⟩ := bind_some hc
    obtain ⟨p', h3, hc⟩ := bind_some hc
    obtain ⟨x', h4, hc⟩ := bind_some hc
    cases hc
    simp only [evOp] at h
    obtain ⟨v', h5, h6⟩ := Option.map_eq_some_iff.1 h
    cases h6
    exact sim_store hs ht h3 h4 h2 hop h5
  | nilCheck x =>
    rw [hop] at hc
    obtain ⟨y, hy, rfl⟩ := Option.map_eq_some_iff.1 hc
    exact sim_nilchk hs ht hy hop h
  | binOp op t x y yt =>
    rw [hop] at hc
    obtain ⟨x', h3, hc⟩ := bind_some hc
    obtain ⟨y', h4, hc⟩ := bind_some hc
    cases hc
    exact sim_bin hs ht h3 h4 hop h
  | unOp op t x =>
    rw [hop] at hc
    obtain ⟨y, hy, rfl⟩ := Option.map_eq_some_iff.1 hc
    exact sim_una hs ht hy hop h
  | convert s d x =>
    rw [hop] at hc
    simp only [compOp] at hc
    split at hc
    · rename_i k0 k h1 h2
      obtain ⟨y, hy, rfl⟩ := Option.map_eq_some_iff.1 hc
      exact sim_conv hs ht hy h1 h2 hop h
    · split at hc
      · rename_i hst
        simp only [Bool.and_eq_true] at hst
        obtain ⟨y, hy, rfl⟩ := Option.map_eq_some_iff.1 hc
        exact sim_convS hs ht hy hst.1 hst.2 hop h
      · cases hc
  | makeFunc fn first cap =>
    rw [hop] at hc
    simp only [compOp] at hc
    cases fn with
    | func f =>
      simp only at hc
      split at hc
      · rename_i hf
        obtain ⟨y, hy, rfl⟩ := Option.map_eq_some_iff.1 hc
        cases h
        exact sim_mkfn hs ht hf hy hop
      · cases hc
    | _ => cases hc
  | makeMap t r =>
    rw [hop] at hc
    cases r with
    | none => cases hc; cases h; exact sim_mkmap hs hop
    | some r => cases hc
  | makeSlice t l c =>
    rw [hop] at hc
    obtain ⟨e, h1, hc⟩ := bind_some hc
    obtain ⟨z, h2, hc⟩ := bind_some hc
    obtain ⟨b, h3, hc⟩ := bind_some hc
    obtain ⟨l', h4, hc⟩ := bind_some hc
    obtain ⟨c', h5, hc⟩ := bind_some hc
    cases hc
    exact sim_mkslice hs ht h4 h5 h1 h2 h3 hop h
  | slice t x lo hi mx =>
    rw [hop] at hc
    cases mx with
    | some m => cases hc
    | none =>
      simp only [compOp] at hc
      split at hc
      · rename_i q h1
        obtain ⟨x', h3, hc⟩ := bind_some hc
        obtain ⟨l', h4, hc⟩ := bind_some hc
        obtain ⟨c', h5, hc⟩ := bind_some hc
        cases hc
        exact sim_slice hs ht h3 h4 h5 h1 hop h
      · cases hc
  | fieldAddr t x f =>
    rw [hop] at hc
    obtain ⟨⟨o', n, ag⟩, h1, hc⟩ := bind_some hc
    simp only at hc
    split at hc
    · cases hc
    · rename_i hn
      obtain ⟨x', h3, hc⟩ := bind_some hc
      cases hc
      exact sim_faddr hs ht h3 h1 hn hop h
  | field t x f =>
    rw [hop] at hc
    obtain ⟨⟨o', n, ag⟩, h1, hc⟩ := bind_some hc
    obtain ⟨x', h3, hc⟩ := bind_some hc
    cases hc
    exact sim_field hs ht h3 h1 hop h
  | indexAddr t x i =>
    rw [hop] at hc
    obtain ⟨n, h1, hc⟩ := bind_some hc
    obtain ⟨e, h0, h1⟩ := bind_some h1
    obtain ⟨x', h3, hc⟩ := bind_some hc
    obtain ⟨i', h4, hc⟩ := bind_some hc
    cases hc
    exact sim_iaddr hs ht h3 h4 h0 h1 hop h
  | index t x i =>
    rw [hop] at hc
    simp only [compOp] at hc
    split at hc
    · rename_i hst
      obtain ⟨x', h3, hc⟩ := bind_some hc
      obtain ⟨i', h4, hc⟩ := bind_some hc
      cases hc
      exact sim_index hs ht h3 h4 hst hop h
    · cases hc
  | extract x i =>
    rw [hop] at hc
    obtain ⟨y, hy, rfl⟩ := Option.map_eq_some_iff.1 hc
    exact sim_extr hs ht hy hop h
  | mapUpdate t m k x =>
    rw [hop] at hc
    obtain ⟨⟨q, z⟩, h1, hc⟩ := bind_some hc
    obtain ⟨m', h2, hc⟩ := bind_some hc
    obtain ⟨k', h3, hc⟩ := bind_some hc
    obtain ⟨x', h4, hc⟩ := bind_some hc
    cases hc
    exact sim_mapput hs ht h1 h2 h3 h4 hop h
  | call c' =>
    rw [hop] at hc
    obtain ⟨callee, args, ats⟩ := c'
    cases callee with
    | value f =>
      obtain ⟨f', h1, hc⟩ := bind_some hc
      obtain ⟨l, h2, hc⟩ := bind_some hc
      cases hc; cases h
    | invoke r m => cases hc
    | builtin b =>
      cases b with
      | len =>
        simp only [compOp] at hc
        split at hc
        · rename_i x t e1 e2
          obtain ⟨q, h1, hc⟩ := bind_some hc
          obtain ⟨x', h2, hc⟩ := bind_some hc
          cases hc
          exact sim_len (ty := 0) hs ht h2 h1 e1 e2 hop h
        · cases hc
      | max =>
        obtain ⟨l, h1, rfl⟩ := Option.map_eq_some_iff.1 hc
        exact sim_max hs ht (c := ⟨_, args, ats⟩) h1 rfl hop h
      | min =>
        obtain ⟨l, h1, rfl⟩ := Option.map_eq_some_iff.1 hc
        exact sim_min hs ht (c := ⟨_, args, ats⟩) h1 rfl hop h
      | append =>
        simp only [compOp] at hc
        split at hc
        · rename_i s x st xt e1 e2
          obtain ⟨e, h1, hc⟩ := bind_some hc
          obtain ⟨z, h2, hc⟩ := bind_some hc
          obtain ⟨b, h3, hc⟩ := bind_some hc
          split at hc
          · rename_i hcond
            obtain ⟨s', h4, hc⟩ := bind_some hc
            obtain ⟨x', h5, hc⟩ := bind_some hc
            cases hc
            obtain rfl : args = #[s, x] := Array.ext' e1
            obtain rfl : ats = #[st, xt] := Array.ext' e2
            exact sim_append hs ht h4 h5 h1 h2 h3 hcond.1 hcond.2.1 hcond.2.2 hop h
          · cases hc
        · cases hc
      | _ => cases hc
  | panic x =>
    rw [hop] at hc
    obtain ⟨y, hy, rfl⟩ := Option.map_eq_some_iff.1 hc
    cases h
  | _ => rw [hop] at hc; cases hc

end
end Mev
