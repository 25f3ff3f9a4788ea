/- Each operation of the evaluator is the model's: numbers, texts, comparisons, slices of slices. -/
import Derived.Test.YtfndbddlicbjpaaMevOps3
import Derived.Lib.Strings

set_option linter.unusedVariables false
namespace Mev
open Go (Value World Addr Obj Program Operand Op Oper Act Result Next undef Sem)

section
variable {P : Program} {a : Act} {T : Env} {S : St} {w : World} {φ : Phi}

theorem str_und {t : Go.TypeId} (h : isStr P t = true) : P.underlying t = some .string := by
  unfold isStr at h; split at h
  · assumption
  · cases h

theorem int_run {t : Go.TypeId} {op : Go.BinOp} {k : Go.IntKind} {x y : Int} {v : V} (h : intOp op k x y = some v) (hsh : op ≠ .shl) (hsr : op ≠ .shr) :
    ∃ u, (Go.binOp op t (.int k x) (.int k y)).run P w = .ok u w ∧ ∀ W, FR W w v u := by
  unfold Go.binOp
  cases op <;> simp only [intOp] at h
  case shl => exact absurd rfl hsh
  case shr => exact absurd rfl hsr
  case quo =>
    split at h
    · cases h
    · rename_i hy; cases h; exact ⟨_, by simp [Go.Op.intDiv, hy], fun W => .int _ _⟩
  case rem =>
    split at h
    · cases h
    · rename_i hy; cases h; exact ⟨_, by simp [Go.Op.intDiv, hy], fun W => .int _ _⟩
  case add => cases h; exact ⟨_, by simp [Go.Op.intArith], fun W => .int _ _⟩
  case sub => cases h; exact ⟨_, by simp [Go.Op.intArith], fun W => .int _ _⟩
  case mul => cases h; exact ⟨_, by simp [Go.Op.intArith], fun W => .int _ _⟩
  case and => cases h; exact ⟨_, by simp [Go.Op.intBits], fun W => .int _ _⟩
  case or => cases h; exact ⟨_, by simp [Go.Op.intBits], fun W => .int _ _⟩
  case xor => cases h; exact ⟨_, by simp [Go.Op.intBits], fun W => .int _ _⟩
  case andNot => cases h; exact ⟨_, by simp [Go.Op.intBits], fun W => .int _ _⟩
  case eql => cases h; exact ⟨.bool (decide (x = y)), by simp [Go.Op.intCmp]; rfl, fun W => .bool _⟩
  case neq => cases h; exact ⟨.bool (!decide (x = y)), by simp [Go.Op.intCmp, bne]; rfl, fun W => .bool _⟩
  case lss => cases h; exact ⟨_, by simp [Go.Op.intCmp], fun W => .bool _⟩
  case leq => cases h; exact ⟨_, by simp [Go.Op.intCmp], fun W => .bool _⟩
  case gtr => cases h; exact ⟨_, by simp [Go.Op.intCmp], fun W => .bool _⟩
  case geq => cases h; exact ⟨_, by simp [Go.Op.intCmp], fun W => .bool _⟩

theorem shift_run {t : Go.TypeId} {op : Go.BinOp} {k k' : Go.IntKind} {x y : Int} {v : V} (h : shiftOp op k x y = some v) (ho : op = .shl ∨ op = .shr) :
    ∃ u, (Go.binOp op t (.int k x) (.int k' y)).run P w = .ok u w ∧ ∀ W, FR W w v u := by
  unfold shiftOp at h
  split at h
  · cases h
  · rename_i hy
    rcases ho with rfl | rfl <;> cases h <;> exact ⟨_, by simp [Go.binOp, Go.Op.shift, hy], fun W => .int _ _⟩

theorem bytes_eq {b c : ByteArray} : (b.data.toList = c.data.toList) ↔ b = c := by
  constructor
  · intro h
    cases b with | mk b => cases c with | mk c => congr; exact Array.ext' h
  · rintro rfl; rfl
theorem str_run {t : Go.TypeId} {op : Go.BinOp} {x y : ByteArray} {v : V} (h : strOp op x.data.toList y.data.toList = some v) :
    ∃ u, (Go.binOp op t (.string x) (.string y)).run P w = .ok u w ∧ ∀ W, FR W w v u := by
  have hx := Go.Lib.toList_data x
  have hy := Go.Lib.toList_data y
  unfold Go.binOp
  cases op <;> simp only [strOp] at h <;> try (cases h; done)
  case add =>
    split at h
    · rename_i hl
      cases h
      refine ⟨.string (x ++ y), ?_, fun W => ?_⟩
      · have h1 : x.data.size = x.size := rfl
        have h2 : y.data.size = y.size := rfl
        simp only [Array.length_toList] at hl
        simp [Go.Op.stringOp, Go.IntKind.max, Go.IntKind.signed, Go.IntKind.bits]
        omega
      · have : x.data.toList ++ y.data.toList = (x ++ y).data.toList := by simp
        rw [this]; exact .str _
    · cases h
  case eql => cases h; exact ⟨.bool (decide (x.data.toList = y.data.toList)), by simp [Go.Op.stringOp, hx, hy] <;> (first | done | rfl | (rw [Bool.eq_iff_iff]; simp)), fun W => .bool _⟩
  case neq => cases h; exact ⟨.bool (!decide (x.data.toList = y.data.toList)), by simp [Go.Op.stringOp, hx, hy] <;> (first | done | rfl | (rw [Bool.eq_iff_iff]; simp)), fun W => .bool _⟩
  case lss => cases h; exact ⟨_, by simp [Go.Op.stringOp, hx, hy] <;> (first | done | rfl | (rw [Bool.eq_iff_iff]; simp)), fun W => .bool _⟩
  case leq => cases h; exact ⟨.bool (Go.Op.bytesLess x.data.toList y.data.toList || decide (x.data.toList = y.data.toList)), by simp [Go.Op.stringOp, hx, hy] <;> (first | done | rfl | (rw [Bool.eq_iff_iff]; simp)), fun W => .bool _⟩
  case gtr => cases h; exact ⟨.bool (!(Go.Op.bytesLess x.data.toList y.data.toList || decide (x.data.toList = y.data.toList))), by simp [Go.Op.stringOp, hx, hy] <;> (first | done | rfl | (rw [Bool.eq_iff_iff]; simp)), fun W => .bool _⟩
  case geq => cases h; exact ⟨_, by simp [Go.Op.stringOp, hx, hy] <;> (first | done | rfl | (rw [Bool.eq_iff_iff]; simp)), fun W => .bool _⟩

/-! ### structs held against one another -/
theorem leaf_eq {W : Nat → Prop} {t : Go.TypeId} {q : LK} (hl : leafK P t = some q) {x y : V} {u u' : Value} (hx : VR W w φ x u) (hy : VR W w φ y u') {b : Bool} (h : leafEqK q x y = some b) (d : Nat) :
    (Go.Op.equalIn (d + 1) t u u').run P w = .ok b w := by
  unfold leafK at hl
  split at hl <;> cases hl <;> rename_i hd
  all_goals
    unfold leafEqK at h
    split at h <;> (try cases h; done) <;> rename_i hq <;> (try cases hq; done)
  · cases h; rw [vr_bool hx, vr_bool hy]; simp [Go.Op.equalIn, Go.run_underlying hd]; rfl
  · split at h
    · rename_i hk; cases h; rw [vr_int hx, vr_int hy]; simp [Go.Op.equalIn, Go.run_underlying hd, hk]; rfl
    · cases h
  · cases h
    obtain ⟨bx, rfl, rfl⟩ := vr_str hx
    obtain ⟨by', rfl, rfl⟩ := vr_str hy
    simp [Go.Op.equalIn, Go.run_underlying hd]
    rw [Bool.eq_iff_iff]
    simp
    cases bx with | mk bx => cases by' with | mk by2 =>
    first
    | (show (bx == by2) = true ↔ _; simp)
    | (rw [beq_iff_eq]; simp)
    | (show decide (_ = _) = true ↔ _; simp)

theorem leaf_agg {t : Go.TypeId} {q : LK} (h : leafK P t = some q) : aggOf P t = some false := by
  unfold leafK at h
  unfold aggOf
  split at h <;> (try cases h; done) <;> rename_i hd <;> rw [hd]

theorem flat_loop {W : Nat → Prop} {xs ys : List V} {us us' : Array Value}
    (hx : ∀ (i : Nat) v u, xs[i]? = some v → us[i]? = some u → VR W w φ v u) (hy : ∀ (i : Nat) v u, ys[i]? = some v → us'[i]? = some u → VR W w φ v u) (hnx : us.size = xs.length) (hny : us'.size = ys.length) (d : Nat) :
    ∀ (l : List Go.Field) (i : Nat) (ks : List LK) (b : Bool), flatKs P i l = some ks → cellsEq ks (xs.drop i) (ys.drop i) = some b →
    Sem.run P (forIn l ((none : Option Bool), ()) fun f __s =>
            if f.name = "_" then pure (ForInStep.yield (none, ()))
            else do
              let __do_lift ← Go.part f.type us f.offset
              let __do_lift_1 ← Go.part f.type us' f.offset
              let __do_lift ← Go.Op.equalIn (d + 1) f.type __do_lift __do_lift_1
              if __do_lift = false then pure (ForInStep.done (some false, ())) else pure (ForInStep.yield (none, ()))) w = .ok (if b then (none, ()) else (some false, ())) w := by
  intro l
  induction l with
  | nil =>
    intro i ks b hk h
    simp only [flatKs] at hk
    cases hk
    cases hxi : xs.drop i with
    | nil =>
      cases hyi : ys.drop i with
      | nil => rw [hxi, hyi] at h; cases h; simp
      | cons y yr => rw [hxi, hyi] at h; cases h
    | cons x xr => rw [hxi] at h; cases hyi : ys.drop i <;> rw [hyi] at h <;> cases h
  | cons f l ih =>
    intro i ks b hk h
    simp only [flatKs] at hk
    split at hk
    · rename_i hf
      obtain ⟨hf1, hf2⟩ := hf
      simp only [Option.pure_def, Option.bind_eq_bind, Option.bind_eq_some_iff] at hk
      obtain ⟨q, hq, ks', hks, hk⟩ := hk
      cases hk
      cases hxi : xs.drop i with
      | nil => rw [hxi] at h; cases hyi : ys.drop i <;> rw [hyi] at h <;> cases h
      | cons x xr =>
        cases hyi : ys.drop i with
        | nil => rw [hxi, hyi] at h; cases h
        | cons y yr =>
          rw [hxi, hyi] at h
          simp only [cellsEq] at h
          have gx : xs[i]? = some x := by have := congrArg (fun l : List V => l[0]?) hxi; simpa using this
          have gy : ys[i]? = some y := by have := congrArg (fun l : List V => l[0]?) hyi; simpa using this
          have dx : xs.drop (i + 1) = xr := by rw [← List.drop_drop, hxi]; rfl
          have dy : ys.drop (i + 1) = yr := by rw [← List.drop_drop, hyi]; rfl
          obtain ⟨u, hu⟩ := some_of_size hnx gx
          obtain ⟨u', hu'⟩ := some_of_size hny gy
          split at h
          · rename_i tb hl
            have e := leaf_eq (P := P) (w := w) hq (hx _ _ _ gx hu) (hy _ _ _ gy hu') hl d
            cases hr : cellsEq ks' xr yr with
            | none => rw [hr] at h; cases h
            | some rb =>
              rw [hr] at h; cases h
              have ih' := ih (i + 1) ks' rb hks (by rw [dx, dy]; exact hr)
              rw [List.forIn_cons]
              have p1 : (Go.part f.type us f.offset).run P w = .ok u w := by rw [hf2]; simp [Go.part, run_isAgg (leaf_agg hq), hu]
              have p2 : (Go.part f.type us' f.offset).run P w = .ok u' w := by rw [hf2]; simp [Go.part, run_isAgg (leaf_agg hq), hu']
              simp only [hf1, if_false, Sem.run_bind, p1, p2, e, Result.andThen_ok]
              cases tb with
              | false => simp
              | true => simp only [Bool.true_and]; simpa using ih'
          · cases h
    · cases hk

theorem flat_eq {t : Go.TypeId} {fs : Array Go.Field} {ks : List LK} (hu : P.underlying t = some (.struct fs)) (hk : flatKs P 0 fs.toList = some ks) (hst : P.stoodInHeld t = false)
    {W : Nat → Prop} {xs ys : List V} {us us' : Array Value}
    (hx : ∀ (i : Nat) v u, xs[i]? = some v → us[i]? = some u → VR W w φ v u) (hy : ∀ (i : Nat) v u, ys[i]? = some v → us'[i]? = some u → VR W w φ v u) (hnx : us.size = xs.length) (hny : us'.size = ys.length)
    {b : Bool} (h : cellsEq ks xs ys = some b) : (Go.Op.equal t (.agg us) (.agg us')).run P w = .ok b w := by
  unfold Go.Op.equal
  rw [show Go.Op.maxDepth = 9998 + 1 + 1 from rfl]
  generalize 9998 = d
  rw [Go.Op.equalIn]
  simp only [Sem.run_bind, Go.run_underlying hu, Result.andThen_ok]
  simp [hst]
  rw [← Array.forIn_toList, flat_loop hx hy hnx hny d _ 0 ks b hk (by simpa using h)]
  cases b <;> simp

theorem equal_step (t : Go.TypeId) (u u' : Value) : ∃ d, Go.Op.equal t u u' = Go.Op.equalIn (d + 1) t u u' := ⟨9999, rfl⟩
theorem eq_bool {t : Go.TypeId} (hu : P.underlying t = some .bool) (b c : Bool) : (Go.Op.equal t (.bool b) (.bool c)).run P w = .ok (decide (b = c)) w := by
  obtain ⟨d, h⟩ := equal_step t (.bool b) (.bool c)
  rw [h, Go.Op.equalIn]; simp only [Sem.run_bind, Go.run_underlying hu, Result.andThen_ok]; rfl
theorem eq_pp {t e : Go.TypeId} (hu : P.underlying t = some (.pointer e)) (p q : Option Addr) (h : p = none ∨ q = none) : (Go.Op.equal t (.pointer p) (.pointer q)).run P w = .ok (p.isNone && q.isNone) w := by
  obtain ⟨d, hd⟩ := equal_step t (.pointer p) (.pointer q)
  rw [hd, Go.Op.equalIn]; simp only [Sem.run_bind, Go.run_underlying hu, Result.andThen_ok]
  cases p with
  | none => rfl
  | some p => cases q with
    | none => rfl
    | some q => rcases h with h | h <;> cases h
theorem eq_ss {t e : Go.TypeId} (hu : P.underlying t = some (.slice e)) : (Go.Op.equal t (.slice none 0 0) (.slice none 0 0)).run P w = .ok true w := by
  obtain ⟨d, hd⟩ := equal_step t (.slice none 0 0) (.slice none 0 0)
  rw [hd, Go.Op.equalIn]; simp only [Sem.run_bind, Go.run_underlying hu, Result.andThen_ok]; rfl
theorem eq_ii {t : Go.TypeId} {ms : Array (String × Go.TypeId)} (hu : P.underlying t = some (.interface ms)) (t' : Go.TypeId) (v : Value) :
    (Go.Op.equal t .nilIface (.iface t' v)).run P w = .ok false w ∧ (Go.Op.equal t (.iface t' v) .nilIface).run P w = .ok false w := by
  constructor
  · obtain ⟨d, hd⟩ := equal_step t .nilIface (.iface t' v)
    rw [hd, Go.Op.equalIn]; simp only [Sem.run_bind, Go.run_underlying hu, Result.andThen_ok]; rfl
  · obtain ⟨d, hd⟩ := equal_step t (.iface t' v) .nilIface
    rw [hd, Go.Op.equalIn]; simp only [Sem.run_bind, Go.run_underlying hu, Result.andThen_ok]; rfl
theorem eq_ff {t : Go.TypeId} {ps rs : Array Go.TypeId} {vd : Bool} (hu : P.underlying t = some (.func ps rs vd)) (f : Go.Fn) (x y : Array Value) :
    (Go.Op.equal t .nilFunc .nilFunc).run P w = .ok true w ∧ (Go.Op.equal t .nilFunc (.func f x y)).run P w = .ok false w ∧ (Go.Op.equal t (.func f x y) .nilFunc).run P w = .ok false w := by
  refine ⟨?_, ?_, ?_⟩
  · obtain ⟨d, hd⟩ := equal_step t .nilFunc .nilFunc
    rw [hd, Go.Op.equalIn]; simp only [Sem.run_bind, Go.run_underlying hu, Result.andThen_ok]; rfl
  · obtain ⟨d, hd⟩ := equal_step t .nilFunc (.func f x y)
    rw [hd, Go.Op.equalIn]; simp only [Sem.run_bind, Go.run_underlying hu, Result.andThen_ok]; rfl
  · obtain ⟨d, hd⟩ := equal_step t (.func f x y) .nilFunc
    rw [hd, Go.Op.equalIn]; simp only [Sem.run_bind, Go.run_underlying hu, Result.andThen_ok]; rfl

/-- '==' and '!=' of what is no number and no text -/
theorem of_equal {op : Go.BinOp} {t : Go.TypeId} {X Y : Operand} {u u' : Value} {b : Bool} (hop : op = .eql ∨ op = .neq) (he : (Go.Op.equal t u u').run P w = .ok b w)
    (hb : Go.binOp .eql t u u' = (do pure (.bool (← Go.Op.equal t u u')))) (hb' : Go.binOp .neq t u u' = (do pure (.bool (!(← Go.Op.equal t u u')))))
    (hg : Go.eqGuard op t X Y u u' = pure ()) :
    (Go.eqGuard op t X Y u u').run P w = .ok () w ∧ (Go.binOp .eql t u u').run P w = .ok (.bool b) w ∧ (Go.binOp .neq t u u').run P w = .ok (.bool (!b)) w := by
  refine ⟨by rw [hg]; rfl, ?_, ?_⟩
  · rw [hb]; simp [he]
  · rw [hb']; simp [he]

variable (hs : Sim φ S w) (ht : TR (Wr φ S.get) w φ T a) {o : Oper}
include hs ht

theorem sim_bin {op : Go.BinOp} {t yt : Go.TypeId} {x y : Operand} {x' y' : Od} (hx : compOd x = some x') (hy : compOd y = some y') (ho : o.op = .binOp op t x y yt) {v : V} {S' : St}
    (h : evOp T S (.bin op (eqKOf P t) x' y') = some (v, S')) : Good φ S w ((Go.execOp a.eval o).run P w) v S' := by
  have hxv := opd_vr ht hx
  have hyv := opd_vr ht hy
  simp only [evOp] at h
  cases hb : binOp op (eqKOf P t) (opd T x') (opd T y') with
  | none => rw [hb] at h; cases h
  | some z =>
    rw [hb] at h; cases h
    have run : ∀ u, (Go.eqGuard op t x y (a.eval x) (a.eval y)).run P w = .ok () w → (Go.binOp op t (a.eval x) (a.eval y)).run P w = .ok u w → (Go.execOp a.eval o).run P w = .ok (.value u) w := by
      intro u h1 h2
      simp [Go.execOp, ho, h1, h2]
    have guardI : (∃ k n, a.eval x = .int k n) ∨ (∃ b, a.eval x = .string b) → (Go.eqGuard op t x y (a.eval x) (a.eval y)).run P w = .ok () w := by
      rintro (⟨k, n, h1⟩ | ⟨b, h1⟩) <;> (unfold Go.eqGuard; rw [h1]; split <;> rfl)
    unfold binOp at hb
    split at hb
    · rename_i k n k' n' e1 e2
      rw [e1] at hxv; rw [e2] at hyv
      have h1 := vr_int hxv
      have h2 := vr_int hyv
      have hg := guardI (.inl ⟨_, _, h1⟩)
      split at hb
      · obtain ⟨u, hu, hf⟩ := shift_run (P := P) (w := w) (t := t) (k' := k') hb (.inl rfl)
        exact Good.pure hs (run u hg (by rw [h1, h2]; exact hu)) (.fr _ _ (hf _))
      · obtain ⟨u, hu, hf⟩ := shift_run (P := P) (w := w) (t := t) (k' := k') hb (.inr rfl)
        exact Good.pure hs (run u hg (by rw [h1, h2]; exact hu)) (.fr _ _ (hf _))
      · rename_i n1 n2
        split at hb
        · rename_i hk; subst hk
          obtain ⟨u, hu, hf⟩ := int_run (P := P) (w := w) (t := t) hb (fun e => n1 e) (fun e => n2 e)
          exact Good.pure hs (run u hg (by rw [h1, h2]; exact hu)) (.fr _ _ (hf _))
        · cases hb
    · rename_i s s' e1 e2
      rw [e1] at hxv; rw [e2] at hyv
      obtain ⟨b1, h1, rfl⟩ := vr_str hxv
      obtain ⟨b2, h2, rfl⟩ := vr_str hyv
      have hg := guardI (.inr ⟨_, h1⟩)
      obtain ⟨u, hu, hf⟩ := str_run (P := P) (w := w) (t := t) hb
      exact Good.pure hs (run u hg (by rw [h1, h2]; exact hu)) (.fr _ _ (hf _))
    · rename_i nint nstr
      -- what is left is held against one another
      have key : ∀ b, eqlOp (eqKOf P t) (opd T x') (opd T y') = some b → op = .eql ∨ op = .neq →
          (Go.eqGuard op t x y (a.eval x) (a.eval y)).run P w = .ok () w ∧
          (Go.binOp .eql t (a.eval x) (a.eval y)).run P w = .ok (.bool b) w ∧ (Go.binOp .neq t (a.eval x) (a.eval y)).run P w = .ok (.bool (!b)) w := by
        intro b hq hop
        unfold eqlOp at hq
        split at hq
        · cases hq
        · rename_i ks hks
          split at hq
          · rename_i xs ys e1 e2
            rw [e1] at hxv; rw [e2] at hyv
            obtain ⟨us, h1, hn1, _, hv1⟩ := vr_agg hxv
            obtain ⟨us', h2, hn2, _, hv2⟩ := vr_agg hyv
            unfold eqKOf at hks
            split at hks <;> (try cases hks; done)
            rename_i fs hu
            split at hks <;> (try cases hks; done)
            rename_i ks' hk
            split at hks <;> (try cases hks; done)
            rename_i hc
            cases hks
            have he := flat_eq (P := P) (w := w) hu hk hc.1 hv1 hv2 hn1 hn2 hq
            refine ⟨?_, ?_, ?_⟩
            · rw [h1, h2]
              rcases hop with rfl | rfl <;> simp [Go.eqGuard, hc.2]
            · rw [h1, h2]; simp [Go.binOp, he]
            · rw [h1, h2]; simp [Go.binOp, he]
          · cases hq
        · rename_i hks
          have hu : P.underlying t = some .bool := by
            unfold eqKOf at hks
            split at hks <;> (try cases hks; done)
            · assumption
            · split at hks <;> (try split at hks) <;> cases hks
          split at hq
          · rename_i b1 b2 e1 e2
            cases hq
            rw [e1] at hxv; rw [e2] at hyv
            rw [vr_bool hxv, vr_bool hyv]
            exact of_equal hop (eq_bool hu _ _) rfl rfl (by rcases hop with rfl | rfl <;> rfl)
          · cases hq
        · rename_i hks
          obtain ⟨e, hu⟩ : ∃ e, P.underlying t = some (.pointer e) := by
            unfold eqKOf at hks
            split at hks <;> (try cases hks; done)
            · exact ⟨_, by assumption⟩
            · split at hks <;> (try split at hks) <;> cases hks
          have pv : ∀ {v : V} {u : Value}, VR (Wr φ S.get) w φ v u → ((∃ id g sz idx off, v = .ptr id g sz idx off) ∨ ∃ r off, v = .rp r off) → ∃ ad, u = .pointer (some ad) := by
            rintro v u h (⟨id, g, sz, idx, off, rfl⟩ | ⟨r, off, rfl⟩)
            · obtain ⟨c, n, tot, _, _, h3⟩ := vr_ptr h; exact ⟨_, h3⟩
            · obtain ⟨c, o', h3, _⟩ := vr_rp h; exact ⟨_, h3⟩
          split at hq
          · rename_i e1 e2; cases hq; rw [e1] at hxv; rw [e2] at hyv
            rw [vr_nilp hxv, vr_nilp hyv]
            exact of_equal hop (eq_pp hu none none (.inl rfl)) rfl rfl (by rcases hop with rfl | rfl <;> rfl)
          · rename_i e1 e2; cases hq; rw [e1] at hxv; rw [e2] at hyv
            obtain ⟨ad, h2⟩ := pv hyv (.inl ⟨_, _, _, _, _, rfl⟩)
            rw [vr_nilp hxv, h2]
            exact of_equal hop (eq_pp hu none (some ad) (.inl rfl)) rfl rfl (by rcases hop with rfl | rfl <;> rfl)
          · rename_i e1 e2; cases hq; rw [e1] at hxv; rw [e2] at hyv
            obtain ⟨ad, h2⟩ := pv hxv (.inl ⟨_, _, _, _, _, rfl⟩)
            rw [vr_nilp hyv, h2]
            exact of_equal hop (eq_pp hu (some ad) none (.inr rfl)) rfl rfl (by rcases hop with rfl | rfl <;> rfl)
          · rename_i e1 e2; cases hq; rw [e1] at hxv; rw [e2] at hyv
            obtain ⟨ad, h2⟩ := pv hyv (.inr ⟨_, _, rfl⟩)
            rw [vr_nilp hxv, h2]
            exact of_equal hop (eq_pp hu none (some ad) (.inl rfl)) rfl rfl (by rcases hop with rfl | rfl <;> rfl)
          · rename_i e1 e2; cases hq; rw [e1] at hxv; rw [e2] at hyv
            obtain ⟨ad, h2⟩ := pv hxv (.inr ⟨_, _, rfl⟩)
            rw [vr_nilp hyv, h2]
            exact of_equal hop (eq_pp hu (some ad) none (.inr rfl)) rfl rfl (by rcases hop with rfl | rfl <;> rfl)
          · cases hq
        · rename_i hks
          obtain ⟨e, hu⟩ : ∃ e, P.underlying t = some (.slice e) := by
            unfold eqKOf at hks
            split at hks <;> (try cases hks; done)
            · exact ⟨_, by assumption⟩
            · split at hks <;> (try split at hks) <;> cases hks
          split at hq
          · rename_i e1 e2; cases hq; rw [e1] at hxv; rw [e2] at hyv
            rw [vr_nils hxv, vr_nils hyv]
            exact of_equal hop (eq_ss hu) rfl rfl (by rcases hop with rfl | rfl <;> rfl)
          · cases hq
        · rename_i hks
          obtain ⟨ms, hu⟩ : ∃ ms, P.underlying t = some (.interface ms) := by
            unfold eqKOf at hks
            split at hks <;> (try cases hks; done)
            · exact ⟨_, by assumption⟩
            · split at hks <;> (try split at hks) <;> cases hks
          have nv : ∀ {u : Value}, VR (Wr φ S.get) w φ .nili u → u = .nilIface := by
            intro u h; cases h with | fr _ _ h => cases h; rfl
          split at hq
          · rename_i e1 e2; cases hq; rw [e1] at hxv; rw [e2] at hyv
            obtain ⟨u', h2, _⟩ := vr_ifc hyv
            rw [nv hxv, h2]
            exact of_equal hop (eq_ii hu _ _).1 rfl rfl (by rcases hop with rfl | rfl <;> rfl)
          · rename_i e1 e2; cases hq; rw [e1] at hxv; rw [e2] at hyv
            obtain ⟨u', h2, _⟩ := vr_ifc hxv
            rw [nv hyv, h2]
            exact of_equal hop (eq_ii hu _ _).2 rfl rfl (by rcases hop with rfl | rfl <;> rfl)
          · cases hq
        · rename_i hks
          obtain ⟨ps, rs, vd, hu⟩ : ∃ ps rs vd, P.underlying t = some (.func ps rs vd) := by
            unfold eqKOf at hks
            split at hks <;> (try cases hks; done)
            · exact ⟨_, _, _, by assumption⟩
            · split at hks <;> (try split at hks) <;> cases hks
          have nv : ∀ {u : Value}, VR (Wr φ S.get) w φ .nilf u → u = .nilFunc := by
            intro u h; cases h with | fr _ _ h => cases h; rfl
          split at hq
          · rename_i e1 e2; cases hq; rw [e1] at hxv; rw [e2] at hyv
            rw [nv hxv, nv hyv]
            exact of_equal hop (eq_ff hu (.func 0) #[] #[]).1 rfl rfl (by rcases hop with rfl | rfl <;> rfl)
          · rename_i e1 e2; cases hq; rw [e1] at hxv; rw [e2] at hyv
            obtain ⟨us, h2, _⟩ := vr_fn hyv
            rw [nv hxv, h2]
            exact of_equal hop (eq_ff hu _ _ _).2.1 rfl rfl (by rcases hop with rfl | rfl <;> rfl)
          · rename_i e1 e2; cases hq; rw [e1] at hxv; rw [e2] at hyv
            obtain ⟨us, h2, _⟩ := vr_fn hxv
            rw [nv hyv, h2]
            exact of_equal hop (eq_ff hu _ _ _).2.2 rfl rfl (by rcases hop with rfl | rfl <;> rfl)
          · cases hq
      split at hb
      · cases hq : eqlOp (eqKOf P t) (opd T x') (opd T y') with
        | none => rw [hq] at hb; cases hb
        | some b =>
          rw [hq] at hb; cases hb
          obtain ⟨h1, h2, _⟩ := key b hq (.inl rfl)
          exact Good.pure hs (run _ h1 h2) (.fr _ _ (.bool _))
      · cases hq : eqlOp (eqKOf P t) (opd T x') (opd T y') with
        | none => rw [hq] at hb; cases hb
        | some b =>
          rw [hq] at hb; cases hb
          obtain ⟨h1, _, h2⟩ := key b hq (.inr rfl)
          exact Good.pure hs (run _ h1 h2) (.fr _ _ (.bool _))
      · cases hb
end
end Mev
