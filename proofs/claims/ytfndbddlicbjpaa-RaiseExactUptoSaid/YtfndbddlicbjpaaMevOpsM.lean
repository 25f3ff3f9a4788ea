/- Each operation of the evaluator is the model's: maps. -/
import Derived.Test.YtfndbddlicbjpaaMevOpsB

set_option linter.unusedVariables false
namespace Mev
open Go (Value World Addr Obj Program Operand Op Oper Act Result Next undef Sem Builtin)

/-- A map's entries turn. -/
theorem Sim.turn_map {φ : Phi} {S : St} {w : World} (hs : Sim φ S w) {id c n tot : Nat} {es : List (V × V)} (hg : S.get id = some (.map es)) (hp : φ id 0 = some (.at_ c n tot)) (es' : List (V × V)) (ms' : Array Go.MapEntry) (clock' : Nat) (k : Nat)
    (hms : ms'.size = es'.length) (hent : ∀ (i : Nat) (e : V × V) (m : Go.MapEntry), es'[i]? = some e → ms'[i]? = some m → VR (Wr φ S.get) w φ e.1 m.key ∧ VR (Wr φ S.get) w φ e.2 m.val ∧ keyOk e.1 = true)
    (hk : ∀ v ∈ contents (.map es'), v.kb ≤ max k (max id S.pin)) (hkt : k ≤ S.top) : Stp φ S w φ ((S.put id (.map es')).pinTo k) { w with heap := w.heap.setIfInBounds c (.map ms' clock') } := by
  have hidl := get_lt _ _ hg
  have hcl := (hs.rel.lt _ _ _ _ _ hp).1
  have hget : ∀ i, (S.put id (.map es')).get i = if id = i then some (.map es') else S.get i := by
    intro i
    rw [put_get_if]
    by_cases hq : id = i
    · rw [if_pos ⟨hq, hidl⟩, if_pos hq]
    · rw [if_neg (fun h => hq h.1), if_neg hq]
  have hother : ∀ k, k ≠ c → (w.heap.setIfInBounds c (.map ms' clock'))[k]? = w.heap[k]? := fun k hk => Array.getElem?_setIfInBounds_ne (Ne.symm hk)
  have hself : (w.heap.setIfInBounds c (.map ms' clock'))[c]? = some (.map ms' clock') := by simp [hcl]
  have hW : Wr φ S.get c := .inr ⟨id, 0, n, tot, hp, _, hg, by simp⟩
  have hf : Fr (Wr φ S.get) w { w with heap := w.heap.setIfInBounds c (.map ms' clock') } := ⟨rfl, rfl, rfl, by simp, fun k hk hn => hother k (by rintro rfl; exact hn hW)⟩
  have hwr : ∀ c, c < w.heap.size → ¬ Wr φ S.get c → ¬ Wr φ (S.put id (.map es')).get c := by
    rintro c hc hn (hX | ⟨i, g, n, t, hp, b, hb, hd⟩)
    · exact hn (.inl hX)
    rw [hget] at hb
    by_cases hi : id = i
    · subst hi; exact hn (.inr ⟨id, g, n, t, hp, _, hg, by simp⟩)
    · rw [if_neg hi] at hb; exact hn (.inr ⟨i, g, n, t, hp, b, hb, hd⟩)
  refine ⟨⟨?_, ?_, ?_, ?_⟩, Ext.refl _, hf, hwr, fun k hX => hother k (by rintro rfl; exact hs.rel.out _ _ _ _ _ hp hX), by simp, fun _ _ _ h => .inl ⟨_, _, h⟩⟩
  · show Rel _ (S.put id (.map es')).get _
    refine hs.rel.update id (Ext.refl _) hf hwr (fun i hi => by rw [hget, if_neg (Ne.symm hi)]) (fun _ _ _ => rfl) (fun i g c1 n1 t1 hi h1 => hother c1 (by rintro rfl; exact hi (hs.rel.inj _ _ _ _ _ _ _ _ _ h1 hp))) ?_ ?_ ?_ ?_
    · intro sz rows gen lo h; rw [hget, if_pos rfl] at h; cases h
    · intro es1 c1 n1 t1 h h1
      rw [hget, if_pos rfl] at h; cases h
      rw [hp] at h1; cases h1
      exact ⟨ms', clock', hself, hms, fun i e m he hm => by obtain ⟨a, b, c⟩ := hent i e m he hm; exact ⟨a.mono hf hwr (Ext.refl _), b.mono hf hwr (Ext.refl _), c⟩⟩
    · intro g id' g' c n t n' t' h1 h2; exact hs.rel.inj _ _ _ _ _ _ _ _ _ h1 h2
    · intro g c n t h1
      obtain ⟨a, b⟩ := hs.rel.lt _ _ _ _ _ h1
      exact ⟨⟨by simpa using a, b⟩, hs.rel.out _ _ _ _ _ h1⟩
  · intro j b hb v hv
    rw [get_pinTo, hget] at hb
    simp only [pin_pinTo, pin_put]
    split at hb
    · rename_i hq; subst hq
      cases hb
      have := hk v hv
      omega
    · have := hs.pin _ _ hb v hv; omega
  · have := hs.pinle; simp only [pin_pinTo, pin_put, top_pinTo, top_put]; omega
  · intro i g l hp
    simp only [top_pinTo, top_put]
    exact hs.dom _ _ _ hp

section
variable {P : Program} {a : Act} {T : Env} {S : St} {w : World} {φ : Phi}

def kindD (P : Program) (kt : Go.TypeId) (q : LK) : Prop :=
  match q with
  | .int => ∃ k, P.underlying kt = some (.int k)
  | .str => P.underlying kt = some .string
  | .bool => False

theorem mapOf_spec {t : Go.TypeId} {q : LK} {z : V} (h : mapOf P t = some (q, z)) : ∃ kt e i zv, P.underlying t = some (.map kt e) ∧ kindD P kt q ∧ P.info? e = some i ∧ i.zero = some zv ∧ z = ofConst zv := by
  unfold mapOf at h
  split at h
  · rename_i kt e hu
    split at h
    · rename_i k hk
      obtain ⟨i, hi, h⟩ := Option.bind_eq_some_iff.1 h
      obtain ⟨zv, hz, h⟩ := Option.map_eq_some_iff.1 h
      cases h
      exact ⟨kt, e, i, zv, hu, ⟨k, hk⟩, hi, hz, rfl⟩
    · rename_i hk
      obtain ⟨i, hi, h⟩ := Option.bind_eq_some_iff.1 h
      obtain ⟨zv, hz, h⟩ := Option.map_eq_some_iff.1 h
      cases h
      exact ⟨kt, e, i, zv, hu, hk, hi, hz, rfl⟩
    · cases h
  · cases h

theorem byte_beq {x y : ByteArray} : (x == y) = true ↔ x.data = y.data := by
  have : (x == y) = (x.data == y.data) := by cases x; cases y; rfl
  rw [this]; simp

theorem same_now {W : Nat → Prop} {kt : Go.TypeId} {q : LK} (hk : kindD P kt q) {x y : V} {u v : Value} (hq : keyOkK q x = true) (hx : VR W w φ x u) (hy : VR W w φ y v) {b : Bool} (h : leafEq x y = some b) :
    ∃ d, P.underlying kt = some d ∧ Go.Instr.sameNow d u v = some b ∧ (b = true → Go.Instr.sameBits 10000 v u = true) := by
  cases x with
  | int k n =>
    cases q with
    | int =>
      obtain ⟨k', hk⟩ := hk
      cases y <;> simp only [leafEq] at h <;> try (cases h; done)
      rename_i k2 m
      split at h
      · rename_i e
        subst e
        cases h
        have e1 := vr_int hx
        have e2 := vr_int hy
        subst e1 e2
        refine ⟨_, hk, by simp [Go.Instr.sameNow]; rfl, fun hb => ?_⟩
        have : n = m := of_decide_eq_true hb
        simp [Go.Instr.sameBits, this]
      · cases h
    | _ => cases hq
  | str s =>
    cases q with
    | str =>
      cases y <;> simp only [leafEq] at h <;> try (cases h; done)
      rename_i s2
      cases h
      obtain ⟨b1, rfl, rfl⟩ := vr_str hx
      obtain ⟨b2, rfl, rfl⟩ := vr_str hy
      refine ⟨_, hk, ?_, fun hb => ?_⟩
      · simp only [Go.Instr.sameNow, Option.some.injEq]
        rw [Bool.eq_iff_iff, byte_beq]
        simp
      · have : b1 = b2 := bytes_eq.1 (of_decide_eq_true hb)
        subst this
        simp only [Go.Instr.sameBits]
        exact byte_beq.2 rfl
    | _ => cases hq
  | _ => cases q <;> cases hq

/-- where a key is found, and what is put -/
theorem find_put {W : Nat → Prop} {kt : Go.TypeId} {q : LK} (hk : kindD P kt q) {x : V} {u : Value} (hq : keyOkK q x = true) (hx : VR W w φ x u) : ∀ (es : List (V × V)) (ms : List Go.MapEntry) (i0 : Nat) (r : Option V), ms.length = es.length →
    (∀ (i : Nat) (e : V × V) (m : Go.MapEntry), es[i]? = some e → ms[i]? = some m → VR W w φ e.1 m.key ∧ VR W w φ e.2 m.val ∧ keyOk e.1 = true) → findE x es = some r →
    ∃ d, P.underlying kt = some d ∧ ((r = none ∧ Go.Instr.findNow d u ms i0 = some none ∧ ∀ y, putE x y es = es ++ [(x, y)]) ∨
      ∃ i e m, es[i]? = some e ∧ ms[i]? = some m ∧ r = some e.2 ∧ Go.Instr.findNow d u ms i0 = some (some (i0 + i, m.val)) ∧ Go.Instr.sameBits 10000 m.key u = true ∧ ∀ y, putE x y es = es.set i (x, y)) := by
  intro es
  induction es with
  | nil =>
    intro ms i0 r hl _ h
    cases h
    obtain rfl : ms = [] := List.length_eq_zero_iff.1 hl
    have : ∃ d, P.underlying kt = some d := by
      cases q with
      | int => obtain ⟨k, hk⟩ := hk; exact ⟨_, hk⟩
      | str => exact ⟨_, hk⟩
      | bool => exact hk.elim
    obtain ⟨d, hd⟩ := this
    exact ⟨d, hd, .inl ⟨rfl, rfl, fun y => rfl⟩⟩
  | cons p es ih =>
    intro ms i0 r hl hent h
    obtain ⟨k', v'⟩ := p
    cases ms with
    | nil => simp at hl
    | cons m ms =>
      have h0 := hent 0 _ _ rfl rfl
      simp only [findE] at h
      split at h
      · rename_i he
        cases h
        obtain ⟨d, hd, hs, hb⟩ := same_now hk hq hx h0.1 he
        exact ⟨d, hd, .inr ⟨0, _, m, rfl, rfl, rfl, by simp [Go.Instr.findNow, hs], hb rfl, fun y => by simp only [putE, he]; rfl⟩⟩
      · rename_i he
        obtain ⟨d, hd, hs, hb⟩ := same_now hk hq hx h0.1 he
        obtain ⟨d', hd', h1⟩ := ih ms (i0 + 1) r (by simpa using hl) (fun i e m he hm => hent (i + 1) e m (by simpa using he) (by simpa using hm)) h
        rw [hd] at hd'; cases hd'
        refine ⟨d, hd, ?_⟩
        rcases h1 with ⟨rfl, h2, h3⟩ | ⟨i, e, m', h2, h3, h4, h5, h6, h7⟩
        · exact .inl ⟨rfl, by simp only [Go.Instr.findNow, hs]; exact h2, fun y => by simp only [putE, he]; rw [h3]; rfl⟩
        · exact .inr ⟨i + 1, e, m', by simpa using h2, by simpa using h3, h4, by simp only [Go.Instr.findNow, hs]; rw [h5, show i0 + (i + 1) = i0 + 1 + i by omega], h6, fun y => by simp only [putE, he]; rw [h7]; rfl⟩
      · cases h

theorem run_checkKey {kt : Go.TypeId} {q : LK} (hk : kindD P kt q) (b : Bool) (u : Value) : (Go.Instr.checkKey b 10000 kt u).run P w = .ok () w := by
  rw [show (10000 : Nat) = 9999 + 1 from rfl]
  unfold Go.Instr.checkKey
  cases q with
  | int => obtain ⟨k, hk⟩ := hk; simp [Go.run_underlying hk]
  | str => have hk' : P.underlying kt = some .string := hk; simp [Go.run_underlying hk']
  | bool => exact hk.elim

theorem run_setObj {c clock clock' : Nat} {ms ms' : Array Go.MapEntry} (h : w.heap[c]? = some (.map ms clock)) : (Go.setObj c (.map ms' clock')).run P w = .ok () { w with heap := w.heap.setIfInBounds c (.map ms' clock') } := by
  simp [Go.setObj, Sem.run, h]
theorem run_getObj {c clock : Nat} {ms : Array Go.MapEntry} (h : w.heap[c]? = some (.map ms clock)) : (Go.getObj c).run P w = .ok (.map ms clock) w := by
  simp [Go.getObj, Sem.run, h]

theorem keyOk_of {q : LK} {x : V} (h : keyOkK q x = true) : keyOk x = true := by cases q <;> cases x <;> first | rfl | cases h
theorem key_kb {x : V} (h : keyOk x = true) : x.kb = 0 := by cases x <;> first | (simp [V.kb]; done) | cases h

theorem sim_mapput (hs : Sim φ S w) (ht : TR (Wr φ S.get) w φ T a) {o : Oper} {t : Go.TypeId} {m k x : Operand} {m' k' x' : Od} {q : LK} {z : V} (hq : mapOf P t = some (q, z)) (hm : compOd m = some m') (hkk : compOd k = some k') (hx : compOd x = some x')
    (ho : o.op = .mapUpdate t m k x) {v : V} {S' : St} (h : evOp T S (.mapput q m' k' x') = some (v, S')) : Good φ S w ((Go.execOp a.eval o).run P w) v S' := by
  have hmv := opd_vr ht hm
  have hkv := opd_vr ht hkk
  have hxv := opd_vr ht hx
  obtain ⟨kt, e, i, zv, hu, hkd, hi, hz, _⟩ := mapOf_spec hq
  simp only [evOp] at h
  split at h
  · rename_i id em
    rw [em] at hmv
    obtain ⟨c, n, tot, hp, hmu⟩ := vr_mp hmv
    split at h
    · rename_i es hg
      split at h
      · rename_i hcond
        simp only [Bool.and_eq_true] at hcond
        obtain ⟨hok, hfs⟩ := hcond
        cases h
        obtain ⟨ms, clock, hc, hsz, hent⟩ := hs.rel.map _ _ _ _ _ hg hp
        obtain ⟨r, hr⟩ := Option.isSome_iff_exists.1 hfs
        obtain ⟨d, hd, hcase⟩ := find_put hkd hok hkv es ms.toList 0 r (by simpa using hsz) (fun i e m he hm => hent i e m he (by simpa using hm)) hr
        have hkb0 := key_kb (keyOk_of hok)
        have hkx : (opd T x').kb ≤ S.top := hxv.kb hs.dom
        have hnm : Nat.max (opd T k').kb (opd T x').kb = (opd T x').kb := by rw [hkb0]; exact Nat.max_eq_right (Nat.zero_le _)
        have hkt : (if Nat.max (opd T k').kb (opd T x').kb ≤ id then 0 else Nat.max (opd T k').kb (opd T x').kb) ≤ S.top := by rw [hnm]; split <;> omega
        have hput : putE (opd T k') (opd T x') es = es ++ [(opd T k', opd T x')] ∨ ∃ i, i < es.length ∧ putE (opd T k') (opd T x') es = es.set i (opd T k', opd T x') := by
          rcases hcase with ⟨_, _, h3⟩ | ⟨i, e, m, h2, _, _, _, _, h7⟩
          · exact .inl (h3 _)
          · exact .inr ⟨i, (List.getElem?_eq_some_iff.1 h2).1, h7 _⟩
        have hmem : ∀ p ∈ putE (opd T k') (opd T x') es, p ∈ es ∨ p = (opd T k', opd T x') := by
          intro p hpm
          rcases hput with e | ⟨i, _, e⟩
          · rw [e, List.mem_append] at hpm
            rcases hpm with h | h
            · exact .inl h
            · exact .inr (by simpa using h)
          · rw [e] at hpm
            exact List.mem_or_eq_of_mem_set hpm
        have hkall : ∀ v ∈ contents (.map (putE (opd T k') (opd T x') es)), v.kb ≤ max (if Nat.max (opd T k').kb (opd T x').kb ≤ id then 0 else Nat.max (opd T k').kb (opd T x').kb) (max id S.pin) := by
          intro v hv
          obtain ⟨p, hpm, hvp⟩ := List.mem_flatMap.1 hv
          rcases hmem p hpm with h | rfl
          · have := hs.pin _ _ hg v (List.mem_flatMap.2 ⟨p, h, hvp⟩); omega
          · rw [hnm]
            simp at hvp
            rcases hvp with rfl | rfl
            · omega
            · split <;> omega
        have hrunK := run_checkKey (w := w) hkd false (a.eval k)
        rcases hcase with ⟨rfl, hf, h3⟩ | ⟨i, e', m1, h2, h2', h4, hf, hsb, h7⟩
        · have hst := hs.turn_map hg hp (putE (opd T k') (opd T x') es) (ms.push { key := a.eval k, val := a.eval x, born := clock }) (clock + 1) _ (by rw [h3]; simp [hsz]) (fun i e m he hm => by
            rw [h3] at he
            rcases Nat.lt_or_ge i es.length with hlt | hge
            · rw [List.getElem?_append_left hlt] at he
              rw [Array.getElem?_push, if_neg (by omega)] at hm
              exact hent i e m he hm
            · rw [List.getElem?_append_right hge] at he
              have hi0 : i = es.length := by
                have := (List.getElem?_eq_some_iff.1 he).1
                simp at this; omega
              subst hi0
              simp at he; subst he
              rw [← hsz] at hm
              simp at hm; subst hm
              exact ⟨hkv, hxv, keyOk_of hok⟩) hkall hkt
          refine ⟨undef, φ, _, _, ?_, .inr ⟨rfl, rfl⟩, .fr _ _ (.un _), hst⟩
          simp [Go.execOp, ho, Go.Instr.mapUpdate, Go.run_underlying hu, hmu, run_getObj hc, hrunK, Go.Instr.findKey, Go.run_underlying hd, hf, run_setObj hc]
        · have hst := hs.turn_map hg hp (putE (opd T k') (opd T x') es) (ms.modify i fun e => { e with key := a.eval k, val := a.eval x }) clock _ (by rw [h7]; simp [hsz]) (fun j e m he hm => by
            rw [h7] at he
            by_cases hij : i = j
            · subst hij
              rw [List.getElem?_set_self (List.getElem?_eq_some_iff.1 h2).1] at he
              cases he
              rw [Array.getElem?_modify, if_pos rfl] at hm
              obtain ⟨m0, _, hm⟩ := Option.map_eq_some_iff.1 hm
              subst hm
              exact ⟨hkv, hxv, keyOk_of hok⟩
            · rw [List.getElem?_set_ne hij] at he
              rw [Array.getElem?_modify, if_neg hij] at hm
              exact hent j e m he hm) hkall hkt
          refine ⟨undef, φ, _, _, ?_, .inr ⟨rfl, rfl⟩, .fr _ _ (.un _), hst⟩
          rw [Nat.zero_add] at hf
          have hmi : ms[i]? = some m1 := by simpa using h2'
          simp [Go.execOp, ho, Go.Instr.mapUpdate, Go.run_underlying hu, hmu, run_getObj hc, hrunK, Go.Instr.findKey, Go.run_underlying hd, hf, hmi, Go.Instr.keyThatStays, hsb, run_setObj hc]
      · cases h
    · cases h
  · cases h

end
end Mev
