/- What an abstract value says of a value of the model, and the abstract blocks of a world. -/
import Derived.Test.YtfndbddlicbjpaaMevStep
import Derived.Test.YtfndbddlicbjpaaMevComp
import Derived.Below

set_option linter.unusedVariables false
namespace Mev
open Go (Value World Addr Obj Program Operand Op Oper Act)

/-- where a block lies, as it was at one of its ages: nowhere yet; in a block of the world, so many rows, room for so many -/
inductive Loc where
  | virt
  | at_ (c n tot : Nat)
/-- where each age of each block lies; 'X': blocks of the world that may still change, and that these blocks are not -/
structure Phi where
  f : Nat → Nat → Option Loc
  X : Nat → Prop
instance : CoeFun Phi fun _ => Nat → Nat → Option Loc := ⟨Phi.f⟩

def at2 (rows : List (List V)) (i j : Nat) : Option V := (rows[i]?).bind (·[j]?)

/-- data that nothing changes any more: 'W' are the blocks that may still change -/
inductive FR (W : Nat → Prop) (w : World) : V → Value → Prop
  | un (u : Value) : FR W w .un u
  | int (k : Go.IntKind) (n : Int) : FR W w (.int k n) (.int k n)
  | bool (b : Bool) : FR W w (.bool b) (.bool b)
  | str (s : ByteArray) : FR W w (.str s.data.toList) (.string s)
  | nilp : FR W w .nilp (.pointer none)
  | nils : FR W w .nils (.slice none 0 0)
  | nilf : FR W w .nilf .nilFunc
  | nili : FR W w .nili .nilIface
  | nilm : FR W w .nilm (.map none)
  | fn (f : Go.FuncId) (cs : List V) (us : Array Value) (hn : us.size = cs.length)
      (h2 : ∀ (i : Nat) v u, cs[i]? = some v → us[i]? = some u → FR W w v u) : FR W w (.fn f cs) (.func (.func f) #[] us)
  | tup (cs : List V) (us : Array Value) (hn : us.size = cs.length)
      (h2 : ∀ (i : Nat) v u, cs[i]? = some v → us[i]? = some u → FR W w v u) : FR W w (.tup cs) (.tuple us)
  | rp (row : List V) (off c o : Nat) (hW : ¬ W c) (hc : c < w.heap.size)
      (h1 : ∀ j v, row[j]? = some v → ∃ u, w.cell? ⟨c, o + j, none⟩ = some u ∧ u.oneCell' = true)
      (h2 : ∀ j v u, row[j]? = some v → w.cell? ⟨c, o + j, none⟩ = some u → FR W w v u) : FR W w (.rp row off) (.pointer (some ⟨c, o + off, none⟩))
  | rs0 (sz : Nat) (a : Option Addr) (cap : Nat) : FR W w (.rs sz [] 0) (.slice a 0 cap)
  | rs (sz : Nat) (rows : List (List V)) (len cap c o : Nat) (hW : ¬ W c) (hc : c < w.heap.size) (hsz : ∀ row ∈ rows, row.length = sz) (hl : len ≤ rows.length) (hcap : rows.length ≤ cap)
      (h1 : ∀ i j v, at2 rows i j = some v → ∃ u, w.cell? ⟨c, o + (i * sz + j), none⟩ = some u ∧ u.oneCell' = true)
      (h2 : ∀ i j v u, at2 rows i j = some v → w.cell? ⟨c, o + (i * sz + j), none⟩ = some u → FR W w v u) : FR W w (.rs sz rows len) (.slice (some ⟨c, o, none⟩) len cap)
  | agg (cs : List V) (us : Array Value) (hn : us.size = cs.length) (h1 : ∀ (i : Nat) u, us[i]? = some u → u.oneCell' = true)
      (h2 : ∀ (i : Nat) v u, cs[i]? = some v → us[i]? = some u → FR W w v u) : FR W w (.agg cs) (.agg us)
  | ifc (t : Go.TypeId) (v : V) (u : Value) (h : FR W w v u) : FR W w (.ifc t v) (.iface t u)

inductive VR (W : Nat → Prop) (w : World) (φ : Phi) : V → Value → Prop
  | fr (v : V) (u : Value) (h : FR W w v u) : VR W w φ v u
  | ptr (id g sz idx off c n tot : Nat) (h : φ id g = some (.at_ c n tot)) (hi : idx < n) : VR W w φ (.ptr id g sz idx off) (.pointer (some ⟨c, idx * sz + off, none⟩))
  | slv (id g sz : Nat) (h : φ id g = some .virt) : VR W w φ (.sl id g sz 0 0) (.slice none 0 0)
  | sl (id g sz off len c n tot cap o : Nat) (h : φ id g = some (.at_ c n tot)) (hl : off + len ≤ n) (hcap : off + cap = tot) (ho : cap ≠ 0 → o = off * sz) (hlc : len ≤ cap) :
      VR W w φ (.sl id g sz off len) (.slice (some ⟨c, o, none⟩) len cap)
  | agg (cs : List V) (us : Array Value) (hn : us.size = cs.length) (h1 : ∀ (i : Nat) u, us[i]? = some u → u.oneCell' = true)
      (h2 : ∀ (i : Nat) v u, cs[i]? = some v → us[i]? = some u → VR W w φ v u) : VR W w φ (.agg cs) (.agg us)
  | tup (cs : List V) (us : Array Value) (hn : us.size = cs.length)
      (h2 : ∀ (i : Nat) v u, cs[i]? = some v → us[i]? = some u → VR W w φ v u) : VR W w φ (.tup cs) (.tuple us)
  | fn (f : Go.FuncId) (cs : List V) (us : Array Value) (hn : us.size = cs.length)
      (h2 : ∀ (i : Nat) v u, cs[i]? = some v → us[i]? = some u → VR W w φ v u) : VR W w φ (.fn f cs) (.func (.func f) #[] us)
  | ifc (t : Go.TypeId) (v : V) (u : Value) (h : VR W w φ v u) : VR W w φ (.ifc t v) (.iface t u)
  | mp (id c n tot : Nat) (h : φ id 0 = some (.at_ c n tot)) : VR W w φ (.mp id) (.map (some c))

/-- what was there and might not change is as it was -/
structure Fr (W : Nat → Prop) (w w' : World) : Prop where
  os : w'.os = w.os
  tape : w'.tape = w.tape
  output : w'.output = w.output
  size : w.heap.size ≤ w'.heap.size
  block : ∀ c, c < w.heap.size → ¬ W c → w'.heap[c]? = w.heap[c]?

theorem Fr.refl (W : Nat → Prop) (w : World) : Fr W w w := ⟨rfl, rfl, rfl, Nat.le_refl _, fun _ _ _ => rfl⟩
theorem Fr.trans {W W' : Nat → Prop} {a b c : World} (h : Fr W a b) (k : Fr W' b c) (hw : ∀ x, x < a.heap.size → ¬ W x → ¬ W' x) : Fr W a c :=
  ⟨k.os.trans h.os, k.tape.trans h.tape, k.output.trans h.output, Nat.le_trans h.size k.size,
    fun x hx hn => (k.block x (Nat.lt_of_lt_of_le hx h.size) (hw x hx hn)).trans (h.block x hx hn)⟩
theorem Fr.cell {W : Nat → Prop} {w w' : World} (h : Fr W w w') {c o : Nat} (hc : c < w.heap.size) (hn : ¬ W c) : w'.cell? ⟨c, o, none⟩ = w.cell? ⟨c, o, none⟩ := by
  unfold World.cell?
  simp only [h.block c hc hn]

theorem FR.mono {W W' : Nat → Prop} {w w' : World} (hf : Fr W w w') (hw : ∀ x, x < w.heap.size → ¬ W x → ¬ W' x) {v : V} {u : Value} (h : FR W w v u) : FR W' w' v u := by
  induction h with
  | un u => exact .un u
  | int k n => exact .int k n
  | bool b => exact .bool b
  | str s => exact .str s
  | nilp => exact .nilp
  | nils => exact .nils
  | nilf => exact .nilf
  | nili => exact .nili
  | nilm => exact .nilm
  | fn f cs us hn h2 ih => exact .fn f cs us hn ih
  | tup cs us hn h2 ih => exact .tup cs us hn ih
  | rp row off c o hW hc h1 h2 ih =>
    refine .rp row off c o (hw c hc hW) (Nat.lt_of_lt_of_le hc hf.size) (fun j v hj => ?_) (fun j v u hj hu => ?_)
    · rw [hf.cell hc hW]; exact h1 j v hj
    · rw [hf.cell hc hW] at hu; exact ih j v u hj hu
  | rs0 sz a cap => exact .rs0 sz a cap
  | rs sz rows len cap c o hW hc hsz hl hcap h1 h2 ih =>
    refine .rs sz rows len cap c o (hw c hc hW) (Nat.lt_of_lt_of_le hc hf.size) hsz hl hcap (fun i j v hj => ?_) (fun i j v u hj hu => ?_)
    · rw [hf.cell hc hW]; exact h1 i j v hj
    · rw [hf.cell hc hW] at hu; exact ih i j v u hj hu
  | agg cs us hn h1 h2 ih => exact .agg cs us hn h1 ih
  | ifc t v u h ih => exact .ifc t v u ih

theorem kbL_mem {cs : List V} {i : Nat} {v : V} (h : cs[i]? = some v) : v.kb ≤ kbL cs := by
  induction cs generalizing i with
  | nil => simp at h
  | cons a cs ih =>
    cases i with
    | zero => simp at h; subst h; simp [kbL]; omega
    | succ i => have := ih (i := i) (by simpa using h); simp [kbL]; omega
theorem kbL_le {cs : List V} {t : Nat} (h : ∀ (i : Nat) (v : V), cs[i]? = some v → v.kb ≤ t) : kbL cs ≤ t := by
  induction cs with
  | nil => simp [kbL]
  | cons a cs ih =>
    have h0 := h 0 a (by simp)
    have h1 := ih fun i v hv => h (i + 1) v (by simpa using hv)
    simp [kbL]; omega

structure Ext (φ φ' : Phi) : Prop where
  e : ∀ id g l, φ id g = some l → φ' id g = some l
  x : φ'.X = φ.X
theorem Ext.refl (φ : Phi) : Ext φ φ := ⟨fun _ _ _ h => h, rfl⟩
theorem Ext.trans {a b c : Phi} (h : Ext a b) (k : Ext b c) : Ext a c := ⟨fun _ _ _ e => k.e _ _ _ (h.e _ _ _ e), k.x.trans h.x⟩

theorem VR.mono' {W W' : Nat → Prop} {w w' : World} {φ φ' : Phi} (hf : Fr W w w') (hw : ∀ x, x < w.heap.size → ¬ W x → ¬ W' x) {v : V} {u : Value} (h : VR W w φ v u) :
    (∀ id g l, φ id g = some l → id < v.kb → φ' id g = some l) → VR W' w' φ' v u := by
  induction h with
  | fr v u h => intro _; exact .fr v u (h.mono hf hw)
  | ptr id g sz idx off c n tot h hi => intro he; exact .ptr id g sz idx off c n tot (he _ _ _ h (by simp [V.kb])) hi
  | slv id g sz h => intro he; exact .slv id g sz (he _ _ _ h (by simp [V.kb]))
  | sl id g sz off len c n tot cap o h hl hcap ho hlc => intro he; exact .sl id g sz off len c n tot cap o (he _ _ _ h (by simp [V.kb])) hl hcap ho hlc
  | agg cs us hn h1 h2 ih =>
    intro he
    refine .agg cs us hn h1 fun i v u hv hu => ih i v u hv hu fun id g l e hk => he id g l e ?_
    exact Nat.lt_of_lt_of_le hk (by simpa [V.kb] using kbL_mem hv)
  | tup cs us hn h2 ih =>
    intro he
    refine .tup cs us hn fun i v u hv hu => ih i v u hv hu fun id g l e hk => he id g l e ?_
    exact Nat.lt_of_lt_of_le hk (by simpa [V.kb] using kbL_mem hv)
  | fn f cs us hn h2 ih =>
    intro he
    refine .fn f cs us hn fun i v u hv hu => ih i v u hv hu fun id g l e hk => he id g l e ?_
    exact Nat.lt_of_lt_of_le hk (by simpa [V.kb] using kbL_mem hv)
  | ifc t v u h ih => intro he; exact .ifc t v u (ih fun id g l e hk => he id g l e (by simpa [V.kb] using hk))
  | mp id c n tot h => intro he; exact .mp id c n tot (he _ _ _ h (by simp [V.kb]))

theorem VR.mono {W W' : Nat → Prop} {w w' : World} {φ φ' : Phi} (hf : Fr W w w') (hw : ∀ x, x < w.heap.size → ¬ W x → ¬ W' x) (he : Ext φ φ') {v : V} {u : Value} (h : VR W w φ v u) : VR W' w' φ' v u :=
  h.mono' hf hw fun id g l e _ => he.e id g l e

theorem some_of_size {us : Array Value} {cs : List V} {i : Nat} {v : V} (hn : us.size = cs.length) (hv : cs[i]? = some v) : ∃ u, us[i]? = some u :=
  ⟨_, Array.getElem?_eq_getElem (by rw [hn]; exact (List.getElem?_eq_some_iff.1 hv).1)⟩

theorem FR.kb {W : Nat → Prop} {w : World} {v : V} {u : Value} (h : FR W w v u) : v.kb = 0 := by
  induction h with
  | agg cs us hn h1 h2 ih =>
    have : kbL cs ≤ 0 := kbL_le fun i v hv => by obtain ⟨u, hu⟩ := some_of_size hn hv; exact Nat.le_of_eq (ih i v u hv hu)
    simp only [V.kb]; omega
  | fn f cs us hn h2 ih =>
    have : kbL cs ≤ 0 := kbL_le fun i v hv => by obtain ⟨u, hu⟩ := some_of_size hn hv; exact Nat.le_of_eq (ih i v u hv hu)
    simp only [V.kb]; omega
  | tup cs us hn h2 ih =>
    have : kbL cs ≤ 0 := kbL_le fun i v hv => by obtain ⟨u, hu⟩ := some_of_size hn hv; exact Nat.le_of_eq (ih i v u hv hu)
    simp only [V.kb]; omega
  | ifc t v u h ih => simpa [V.kb] using ih
  | _ => simp [V.kb]

theorem VR.kb {W : Nat → Prop} {w : World} {φ : Phi} {t : Nat} (hd : ∀ id g l, φ id g = some l → id < t) {v : V} {u : Value} (h : VR W w φ v u) : v.kb ≤ t := by
  induction h with
  | fr v u h => rw [h.kb]; exact Nat.zero_le _
  | ptr id g sz idx off c n tot h hi => simp only [V.kb]; exact hd _ _ _ h
  | slv id g sz h => simp only [V.kb]; exact hd _ _ _ h
  | sl id g sz off len c n tot cap o h hl hcap ho hlc => simp only [V.kb]; exact hd _ _ _ h
  | agg cs us hn h1 h2 ih => simp only [V.kb]; exact kbL_le fun i v hv => by obtain ⟨u, hu⟩ := some_of_size hn hv; exact ih i v u hv hu
  | tup cs us hn h2 ih => simp only [V.kb]; exact kbL_le fun i v hv => by obtain ⟨u, hu⟩ := some_of_size hn hv; exact ih i v u hv hu
  | fn f cs us hn h2 ih => simp only [V.kb]; exact kbL_le fun i v hv => by obtain ⟨u, hu⟩ := some_of_size hn hv; exact ih i v u hv hu
  | ifc t v u h ih => simpa [V.kb] using ih
  | mp id c n tot h => simp only [V.kb]; exact hd _ _ _ h

/-- a value without names of blocks is data that nothing changes -/
theorem VR.frozen {W : Nat → Prop} {w : World} {φ : Phi} {v : V} {u : Value} (h : VR W w φ v u) (hk : v.kb = 0) : FR W w v u := by
  induction h with
  | fr v u h => exact h
  | ptr id g sz idx off c n tot h hi => simp [V.kb] at hk
  | slv id g sz h => simp [V.kb] at hk
  | sl id g sz off len c n tot cap o h hl hcap ho hlc => simp [V.kb] at hk
  | agg cs us hn h1 h2 ih => exact .agg cs us hn h1 fun i v u hv hu => ih i v u hv hu (by have := kbL_mem hv; simp only [V.kb] at hk; omega)
  | tup cs us hn h2 ih => exact .tup cs us hn fun i v u hv hu => ih i v u hv hu (by have := kbL_mem hv; simp only [V.kb] at hk; omega)
  | fn f cs us hn h2 ih => exact .fn f cs us hn fun i v u hv hu => ih i v u hv hu (by have := kbL_mem hv; simp only [V.kb] at hk; omega)
  | ifc t v u h ih => exact .ifc t v u (ih (by simpa [V.kb] using hk))
  | mp id c n tot h => simp [V.kb] at hk

/-! ### the blocks -/
def contents : Blk → List V
  | .cells _ rows _ _ => rows.flatten
  | .map es => es.flatMap fun e => [e.1, e.2]
  | .dead => []

def live (h : Nat → Option Blk) (id : Nat) : Prop := ∃ b, h id = some b ∧ b ≠ .dead
/-- the blocks of the world that may still change -/
def Wr (φ : Phi) (h : Nat → Option Blk) (c : Nat) : Prop := φ.X c ∨ ∃ id g n tot, φ id g = some (.at_ c n tot) ∧ live h id

/-- the cells of a block of the world show rows -/
def Shows (W : Nat → Prop) (w : World) (φ : Phi) (sz : Nat) (rows : List (List V)) (n : Nat) (arr : Array Value) : Prop :=
  ∀ i j v, i < n → at2 rows i j = some v → ∃ u, arr[i * sz + j]? = some u ∧ VR W w φ v u ∧ u.oneCell' = true

structure Rel (φ : Phi) (h : Nat → Option Blk) (w : World) : Prop where
  size : ∀ id sz rows gen lo, h id = some (.cells sz rows gen lo) → ∀ row ∈ rows, row.length = sz
  age : ∀ id sz rows gen lo g l, h id = some (.cells sz rows gen lo) → φ id g = some l → g ≤ gen
  virt : ∀ id sz rows gen lo, h id = some (.cells sz rows gen lo) → φ id gen = some .virt → rows = []
  cells : ∀ id sz rows gen lo g c n tot, h id = some (.cells sz rows gen lo) → lo ≤ g → g ≤ gen → φ id g = some (.at_ c n tot) →
    n ≤ rows.length ∧ (g = gen → n = rows.length) ∧ ∃ arr e, w.heap[c]? = some (.cells arr e (0, 0)) ∧ arr.size = tot * sz ∧ Shows (Wr φ h) w φ sz rows n arr
  map : ∀ id es c n tot, h id = some (.map es) → φ id 0 = some (.at_ c n tot) → ∃ ms clock, w.heap[c]? = some (.map ms clock) ∧ ms.size = es.length ∧
    ∀ (i : Nat) (e : V × V) (m : Go.MapEntry), es[i]? = some e → ms[i]? = some m → VR (Wr φ h) w φ e.1 m.key ∧ VR (Wr φ h) w φ e.2 m.val ∧ keyOk e.1 = true
  inj : ∀ id id' g g' c n tot n' tot', φ id g = some (.at_ c n tot) → φ id' g' = some (.at_ c n' tot') → id = id'
  lt : ∀ id g c n tot, φ id g = some (.at_ c n tot) → c < w.heap.size ∧ n ≤ tot
  out : ∀ id g c n tot, φ id g = some (.at_ c n tot) → ¬ φ.X c
  xlt : ∀ c, φ.X c → c < w.heap.size

structure Sim (φ : Phi) (S : St) (w : World) : Prop where
  rel : Rel φ S.get w
  pin : ∀ j b, S.get j = some b → ∀ v ∈ contents b, v.kb ≤ max j S.pin
  pinle : S.pin ≤ S.top
  dom : ∀ id g l, φ id g = some l → id < S.top

end Mev
