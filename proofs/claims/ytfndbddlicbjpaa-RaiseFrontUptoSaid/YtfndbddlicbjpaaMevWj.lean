/- RaiseFront returns true at every input whose arguments hold at most 1048576 values and letters, and its arguments read as they did. Conditions: those of the given statement, no others. -/
import Derived.Test.YtfndbddlicbjpaaRows
import Derived.Test.YtfndbddlicbjpaaMevDraw8
import Derived.Test.YtfndbddlicbjpaaMevWh
import Derived.Test.YtfndbddlicbjpaaMevWi
import Derived.ProofKit
import Derived.OpenShut
import Derived.JoinedCond
import Derived.Carry

set_option maxRecDepth 100000
namespace Go.Proofs.Ytfndbddlicbjpaa.raiseFront
open Go Go.ChangeShapes Go.WideShapes Go.ChangeAt Go.RowKit Mev
set_option linter.unusedVariables false

theorem own : ownKnob Try.prog.godebug = none := by kernel_rfl
theorem laid : laidOutB Try.prog = true := by kernel_rfl
theorem mixed : Try.prog.follows .mixedOrders = true := by kernel_rfl

/-- no block is known yet -/
def phi0 : Phi := ⟨fun _ _ => none, fun _ => False⟩
theorem sim0 (w : World) : Sim phi0 ⟨[], 0⟩ w where
  rel := {
    size := fun id sz rows gen lo h => by simp [St.get] at h
    age := fun id sz rows gen lo g l h => by simp [St.get] at h
    virt := fun id sz rows gen lo h => by simp [St.get] at h
    cells := fun id sz rows gen lo g c n tot h => by simp [St.get] at h
    map := fun id es c n tot h => by simp [St.get] at h
    inj := fun id id' g g' c n tot n' tot' h => by cases h
    lt := fun id g c n tot h => by cases h
    out := fun id g c n tot h => by cases h
    xlt := fun c h => h.elim }
  pin := fun j b h => by simp [St.get] at h
  pinle := Nat.le_refl _
  dom := fun id g l h => by cases h
theorem wr0 (c : Nat) : ¬ Wr phi0 (St.get ⟨[], 0⟩) c := by
  rintro (h | ⟨id, g, n, tot, h, _⟩)
  · exact h
  · cases h

/-- THE WALK: what the evaluator reckons, the program does. -/
theorem walk (v0 : Value) (n : Int) (W : World) (ts : List Typ) (sp : List (List V)) (rv : V) (rs : List (List UInt8 × Int)) (hrv : RootsV rv rs) (hts : ts.length ≤ 1073741824) (hrs : rs.length ≤ 1073741824)
    (hn1 : -9223372036854775808 ≤ n) (hn2 : n ≤ 9223372036854775807) (h : FR NoW W (.agg [tsV ts sp, rv]) v0) :
    Calls Try.prog 4 #[v0, .int .i64 n] W fun e w' => e = .returned (.bool true) ∧ Below W.heap.size W w' := by
  obtain ⟨S', hev⟩ := raiseFront_ev ⟨[], 0⟩ ts sp hts rv rs hrv hrs n hn1 hn2
  obtain ⟨N, hN⟩ := evF_of_ev hev
  obtain ⟨_, hc⟩ := sim_ev mixed A0 N 4 _ _ _ _ hN
  have hfr : FR (Wr phi0 (St.get ⟨[], 0⟩)) W (.agg [tsV ts sp, rv]) v0 := h.mono (Fr.refl _ _) (fun x _ _ => wr0 x)
  refine (hc phi0 W #[v0, .int .i64 n] (sim0 W) ⟨rfl, fun i v u hv hu => ?_⟩).mono fun e w' he => ?_
  · match i with
    | 0 => simp at hv hu; subst hv; subst hu; exact .fr _ _ hfr
    | 1 => simp at hv hu; subst hv; subst hu; exact .fr _ _ (.int _ _)
    | i + 2 => simp at hv
  · obtain ⟨u, φ', rfl, hu, hs⟩ := he
    refine ⟨?_, ⟨hs.fr.os, hs.fr.tape, hs.fr.output, hs.fr.size, fun k hk => hs.fr.block k hk (wr0 k)⟩⟩
    cases hu with
    | fr v u h => cases h; rfl

theorem one_le {H : Type} (d : DataW H) : 1 ≤ Rows.uptoBulk d := by
  cases d with
  | lit l => cases l <;> simp [Rows.uptoBulk]
  | nil => simp [Rows.uptoBulk]
  | ptr d => simp [Rows.uptoBulk]
  | slice elems spare => simp only [Rows.uptoBulk]; omega
  | agg parts => simp [Rows.uptoBulk]
  | iface t d => simp [Rows.uptoBulk]
  | map entries => simp [Rows.uptoBulk]
  | held h => simp [Rows.uptoBulk]
theorem len_le {H : Type} : ∀ l : List (DataW H), l.length ≤ Rows.uptoBulkAll l
  | [] => by simp [Rows.uptoBulkAll]
  | x :: r => by have h1 := one_le x; have h2 := len_le r; simp only [Rows.uptoBulkAll, List.length_cons]; omega
theorem read_le {H : Type} {d : DataW H} {n : Nat} (h : (d = .nil ∧ n = 0) ∨ ∃ el rest, d = .slice el rest ∧ el.length = n) : n ≤ Rows.uptoBulk d := by
  rcases h with ⟨_, rfl⟩ | ⟨el, rest, rfl, rfl⟩
  · omega
  · have := len_le el; simp only [Rows.uptoBulk]; omega

theorem contract (H : Type) (enc : TypeId × Value → H) (W : World) (base : Nat) (args : Array Value) (ds gs : List (DataW H)) (before : List MemPlace)
    (hval : ∀ (j : Nat) t v, Try.f4.params[j]? = some t → args[j]? = some v → Value.okWide Try.prog W .any base t v)
    (hW : DataW.Whole enc Try.prog Try.f4.params.toList Rows.raiseFrontSpec.vars false W args.toList ds gs before) (hk : Rows.uptoSmall H (ds ++ gs) = true) :
    Calls Try.prog 4 args W fun e W' => ∃ v, e = .returned v ∧ Rows.raiseFrontSpec.post enc Try.prog Try.f4 false true false false W args v W' := by
  have hW' := hW
  have hlt := hW.lt
  obtain ⟨p, q, hA0, hV, rfl, hfz, hnd⟩ := hW
  have hA : DataW.TrodAll enc Try.prog W 0 (fun _ => true) true Try.f4.params.toList args.toList ds p := hA0
  rw [Try.params4] at hA hval
  obtain ⟨v0, v1, d0, d1, p0, p1, rfl, rfl, rfl, h0, h1⟩ := trodAll_two hA
  obtain ⟨rfl, rfl⟩ := trodVars_none hV
  obtain ⟨n, rfl, rfl, rfl, wn⟩ := open_int Try.underlying3 (hval 1 3 v1 rfl rfl) h1
  obtain ⟨ts, sp, rv, rs, e0, e1, hrv, hfr, rfl, l0, l1⟩ := dec_schema (hval 0 25 v0 rfl rfl) h0
  clear hA0
  have hn : -9223372036854775808 ≤ n ∧ n ≤ 9223372036854775807 := by simpa [Lit.wf, IntKind.min, IntKind.max, IntKind.signed, IntKind.bits] using wn
  have hbulk : Rows.uptoBulkAll [DataW.agg [e0, e1], DataW.lit (H := H) (.int .i64 n)] ≤ 1048576 := of_decide_eq_true (by simpa [Rows.uptoSmall] using hk)
  have hb0 : ts.length ≤ Rows.uptoBulk e0 := read_le (l0.imp (fun h => ⟨h.1, by rw [h.2]; rfl⟩) id)
  have hb1 : rs.length ≤ Rows.uptoBulk e1 := read_le (l1.imp (fun h => ⟨h.1, by rw [h.2]; rfl⟩) id)
  simp only [Rows.uptoBulkAll, Rows.uptoBulk] at hbulk
  simp only [List.append_nil] at hW' hlt hk ⊢
  refine (walk v0 n W ts sp rv rs hrv (by omega) (by omega) hn.1 hn.2 hfr).mono fun e W' ⟨he, hb⟩ => ?_
  subst he
  have ha0 := hb.trod laid (t := 25) (by kernel_rfl) (of_decide_eq_true (by kernel_rfl)) h0 (fun x hx => hlt x hx)
  refine ⟨_, rfl, _, _, _, [], p0, [], hW', ?_, ?_, rfl, hb.frame _, fun h => by cases h⟩
  · exact trodAll_cons_mk (shut_bool Try.underlying4 _) trodAll_mk0
  · have := trodAll_mk2 ha0 (shut_int (enc := enc) (w := W') (base := 0) (spare := fun b => decide (b < W.heap.size)) (held := true) Try.underlying3 wn)
    rw [List.append_nil] at this
    exact this

set_option maxRecDepth 100000 in
theorem lifted (os : Os) (started : os.Started) (H : Type) (enc : TypeId × Value → H) (F : Stop.Interp) :
    ReturnsInHanded {} Try.checked os 4 .any ((Rows.OpenSpec.upto Rows.raiseFrontSpec).pre6 enc Try.prog Try.f4 Rows.raiseFrontUptoRow.domain false) (((Rows.OpenSpec.upto Rows.raiseFrontSpec).at F).post enc Try.prog Try.f4 false true false false) := by
  refine returnsInHanded_of_cond (C := Try.checked) (s := Rows.OpenSpec.upto Rows.raiseFrontSpec) (k := Rows.uptoSmall) rfl own started (by kernel_rfl) Try.func4
    (OpenSpec.witness (enc := enc) (C := Try.checked) (s := Rows.OpenSpec.upto Rows.raiseFrontSpec) (k := Rows.uptoSmall) rfl false ⟨#[], #[.agg #[.slice none 0 0, .slice none 0 0], .int .i64 0], []⟩ 8 (by kernel_rfl) (by kernel_rfl) (by kernel_rfl)
      (x := ([.agg [.nil, .nil], .lit (.int .i64 0)], [], [])) (by kernel_rfl) rfl (by kernel_rfl)) ?_
  intro W base args ds gs before hval hW _ hk _
  exact contract H enc W base args ds gs before hval hW hk

theorem proved : Rows.RaiseFrontUptoSaid :=
  OpenClaim.holds_of_cond 4 Try.f4 rfl rfl rfl rfl rfl rfl rfl ⟨rfl, rfl, rfl, rfl, rfl⟩ rfl rfl rfl rfl rfl (by kernel_rfl) Try.func4 (by kernel_rfl)
    (of_decide_eq_true (by kernel_rfl)) (by unfold Func.isWrapper; first | (rw [if_pos (by decide +kernel)]; kernel_rfl) | (rw [if_neg (by decide +kernel)]; exact ⟨rfl, rfl⟩))
    (fun os started H enc _ F => lifted os started H enc F)
#print axioms proved
end Go.Proofs.Ytfndbddlicbjpaa.raiseFront
