/- RaiseExact: one equation. -/
import Derived.Test.YtfndbddlicbjpaaMevWk

set_option maxRecDepth 100000
namespace Mev
open Go Go.Proofs

def inV (ts : List Typ) (rs : List (List UInt8 × Int)) : List V := [tsV (ts.map mk) [lastV], .rs 2 (rs.map rootV) rs.length]

theorem in_roots (rs : List (List UInt8 × Int)) : RootsV (.rs 2 (rs.map rootV) rs.length) rs := Or.inr ⟨[], by simp⟩

theorem raiseExact_bad (S : St) (ts : List Typ) (sp : List (List V)) (hn : ts.length ≤ 1048576) (rv : V) (rs : List (List UInt8 × Int)) (hrv : RootsV rv rs) (hrs : rs.length ≤ 1048576) (hp : ∀ t ∈ ts, t.parts.length ≤ 1048576) (he : errP ts rs ≠ 0) :
    ∃ S', ev Q 3 [.agg [tsV ts sp, rv]] S = some (.ret (.bool true), S') := by
  have hkb := rv_kb rv rs hrv
  have he' : errP (ts.map mk) rs ≠ 0 := by rw [err_mk]; exact he
  have hin := in_roots rs
  have hml : (ts.map mk).length = ts.length := by simp
  obtain ⟨S1, ha1, hu1⟩ := awake_ev (S.push (.cells 2 [[tsV ts sp, rv]] 0 0))
  obtain ⟨S2, id, g, lo, rid, rg, ho, hu2, hid1, hid2, hid3, hlo, hgid, hgr⟩ := own_ev ts sp hn rv rs hrv hrs hp S1
  obtain ⟨S4, h4, hu4⟩ := (enc_ev (ts.map mk) [lastV] (by rw [hml]; exact hn) _ rs hin (by omega) (((S2.put id .dead).put rid .dead).push (.cells 2 [inV ts rs] 0 0))).2 he'
  obtain ⟨S6, h6, hu6⟩ := (enc_ev (ts.map mk) [lastV] (by rw [hml]; exact hn) _ rs hin (by omega) (S4.push (.cells 3 [[.bool false, .nils, .nils]] 0 0))).2 he'
  have hR := renc_ev ts sp hn rv rs hrv (by omega)
  rw [if_neg he] at hR
  rw [err_mk] at h4 h6
  have hst := still_ev ts sp hn rv rs hrv hrs hp
  have hs1 := fun S => same_no S _ (Or.inl rfl)
  have hs2 := fun S => same_no S _ (Or.inr rfl)
  have t1 : S.top + 1 ≤ S1.top := by have := hu1.1; simpa using this
  have t2 : S1.top ≤ S2.top := hu2.1
  have g1 : S1.get S.top = some (.cells 2 [[tsV ts sp, rv]] 0 0) := by rw [hu1.2 _ (by simp)]; simp
  have g2 : S2.get S.top = some (.cells 2 [[tsV ts sp, rv]] 0 0) := by rw [hu2.2 _ (by omega), g1]
  have t3 : S2.top + 1 ≤ S4.top := by have := hu4.1; simpa using this
  have t4 : S4.top + 1 ≤ S6.top := by have := hu6.1; simpa using this
  have g4 : S4.get S.top = some (.cells 2 [[tsV ts sp, rv]] 0 0) := by rw [hu4.2 _ (by simp; omega), push_get _ _ _ (by simp; omega), put_get_ne _ _ _ _ (by omega), put_get_ne _ _ _ _ (by omega), g2]
  have g4y : S4.get S2.top = some (.cells 2 [inV ts rs] 0 0) := by rw [hu4.2 _ (by simp)]; simp
  have g6 : S6.get S.top = some (.cells 2 [[tsV ts sp, rv]] 0 0) := by rw [hu6.2 _ (by simp; omega), push_get _ _ _ (by omega), g4]
  have g6y : S6.get S2.top = some (.cells 2 [inV ts rs] 0 0) := by rw [hu6.2 _ (by simp; omega), push_get _ _ _ (by omega), g4y]
  have g6z : S6.get S4.top = some (.cells 3 [[.bool false, .nils, .nils]] 0 0) := by rw [hu6.2 _ (by simp)]; simp
  obtain ⟨l0, hw0, k0⟩ := wr0_nil S2.top S4.top S6.top (S6.top + 1) (errP ts rs) ((S6.push (.cells 3 [[.bool false, .rs 4 [] 0, .rs 1 [] 0]] 0 0)).push (.cells 3 [[.bool false, .nils, .nils]] 0 0)) (.bool false) .nils (by rw [push_get _ _ _ (by simp; omega), push_get _ _ _ (by omega), g6z])
  obtain ⟨l2, hw2, k2⟩ := wr2_nil S2.top S4.top S6.top (S6.top + 1) (errP ts rs) ((S6.push (.cells 3 [[.bool false, .rs 4 [] 0, .rs 1 [] 0]] 0 0)).push (.cells 3 [[.bool false, .nils, .nils]] 0 0)) (.bool false) .nils (by rw [push_get _ _ _ (by simp; omega), push_get _ _ _ (by omega), g6z])
  have hS9 : ∃ S9 : St, S9 = (((((S6.push (.cells 3 [[.bool false, .rs 4 [] 0, .rs 1 [] 0]] 0 0)).push (.cells 3 [[.bool false, .nils, .nils]] 0 0)).push (.cells 4 [endI] 0 0)).push (.cells 4 [endI] 0 0)).push (.cells 1 [endE] 0 0)).push (.cells 1 [endE] 0 0) := ⟨_, rfl⟩
  obtain ⟨S9, hS9⟩ := hS9
  have g9z : S9.get S4.top = some (.cells 3 [[.bool false, .nils, .nils]] 0 0) := by
    have b0 : S4.top < S6.top := by omega
    rw [hS9]; simp [below b0, g6z]
  have g9y : S9.get S2.top = some (.cells 2 [inV ts rs] 0 0) := by
    have b0 : S2.top < S6.top := by omega
    rw [hS9]; simp [below b0, g6y]
  have t9 : S9.top = S6.top + 6 := by rw [hS9]; simp
  have p9 : S9.pin = S6.pin := by rw [hS9]; simp
  obtain ⟨l4, hr4, k4, k4a, k4b⟩ := rd4_nil S2.top S4.top S6.top (S6.top + 1) (errP ts rs) S9 (.bool false) .nils (.sl (S6.top + 3) 0 4 0 1) (.sl (S6.top + 5) 0 1 0 1) g9z
  obtain ⟨l6, hr6, k6, k6a, k6b⟩ := rd6_nil S2.top S4.top S6.top (S6.top + 1) (errP ts rs) S9 (.bool false) .nils (.sl (S6.top + 3) 0 4 0 1) (.sl (S6.top + 5) 0 1 0 1) g9z
  obtain ⟨S10, h10, hu10⟩ := (enc_ev (ts.map mk) [lastV] (by rw [hml]; exact hn) _ rs hin (by omega) S9).2 he'
  rw [err_mk] at h10
  have t10 : S6.top + 6 ≤ S10.top := by have := hu10.1; omega
  have g10z : S10.get S4.top = some (.cells 3 [[.bool false, .nils, .nils]] 0 0) := by rw [hu10.2 _ (by omega), g9z]
  have g10b : S10.get S6.top = some (.cells 3 [[.bool false, .rs 4 [] 0, .rs 1 [] 0]] 0 0) := by rw [hu10.2 _ (by omega), hS9]; simp
  have g10w : S10.get (S6.top + 1) = some (.cells 3 [[.bool false, .nils, .nils]] 0 0) := by rw [hu10.2 _ (by omega), hS9]; simp
  have g10X : S10.get (S6.top + 3) = some (.cells 4 [endI] 0 0) := by rw [hu10.2 _ (by omega), hS9]; simp
  have g10Y : S10.get (S6.top + 5) = some (.cells 1 [endE] 0 0) := by rw [hu10.2 _ (by omega), hS9]; simp
  have c1 : S.top < S6.top := by omega
  have c2 : S2.top < S6.top := by omega
  have c3' : S4.top < S6.top := by omega
  have c4 : S4.top < S10.top := by omega
  have c5 : S6.top < S10.top := by omega
  have c6 : S6.top + 1 < S10.top := by omega
  have c7 : S6.top + 3 < S10.top := by omega
  have c8 : S6.top + 5 < S10.top := by omega
  have c9 : S2.top < S4.top := by omega
  have c10 : S.top < S4.top := by omega
  have hkm : kbLL ((ts.map mk).map Typ.v ++ [lastV]) = 0 := kbLL_app0 _ _ (kbLL_typ _) (by simp [lastV])
  have hkr := kbLL_root rs
  have hRl : (rs.map rootV).length = rs.length := by simp
  have b1 : id < S2.top := by omega
  have hrows : (ts.map fun t => (mk t).v) = (ts.map mk).map Typ.v := by rw [List.map_map]; rfl
  rw [hrows] at hgid
  have hMl : ((ts.map mk).map Typ.v ++ [lastV]).length = ts.length + 1 := by simp
  have hle1 : ts.length ≤ ts.length + 1 := by omega
  obtain ⟨k01, k02, k03, k04, k05⟩ := k0
  obtain ⟨k21, k22, k23, k24, k25⟩ := k2
  obtain ⟨k41, k42, k43, k44, k45⟩ := k4
  obtain ⟨k61, k62, k63, k64, k65⟩ := k6
  simp only [endI, endE] at hS9 g10X g10Y
  simp only [L0] at hw0 hw2
  simp only [L4] at hr4 hr6
  simp only [tsV, inV, hml, noProg] at *
  generalize hM : (ts.map mk).map Typ.v ++ [lastV] = M at *
  generalize hN : ts.map Typ.v ++ sp = N at *
  generalize errP ts rs = er at *
  generalize rs.map rootV = RV at *
  simp at hw0 hw2 hr4 hr6
  rw [ev_eq q3, c3, evFn_eq _ _ _ _ _ _ _ (by simp)]
  simp [ha1, ho, g1, g2, hgid, hgr, hlo, hkm, hkr, below hid3, below hid2, below b1, h4, h6, hkb, set_mk, hMl, hRl, hle1, hR _, hst _, hs1, hs2, g4, g4y, g6, g6y, g6z, below c1, below c2, below c3', below c9, below c10, hw0, hw2, k01, k02, k03, k04, k05, k21, k22, k23, k24, k25]
  rw [← hS9]
  rw [t9, p9] at hr4
  clear hS9
  simp [hr4, hr6, g9y, g9z, h10, g10z, g10b, g10w, g10X, g10Y, below c4, below c5, below c6, below c7, below c8, hs2, k41, k42, k43, k44, k45, k4a, k4b, k61, k62, k63, k64, k65, k6a, k6b, set_mk]
end Mev

/- RaiseExact: one equation, where there is no error. -/

set_option maxRecDepth 100000
namespace Mev
open Go Go.Proofs

theorem raiseExact_ok (S : St) (ts : List Typ) (sp : List (List V)) (hn : ts.length ≤ 1048576) (rv : V) (rs : List (List UInt8 × Int)) (hrv : RootsV rv rs) (hrs : rs.length ≤ 1048576) (hp : ∀ t ∈ ts, t.parts.length ≤ 1048576) (he : errP ts rs = 0) :
    ∃ S', ev Q 3 [.agg [tsV ts sp, rv]] S = some (.ret (.bool true), S') := by
  have hkb := rv_kb rv rs hrv
  have he' : errP (ts.map mk) rs = 0 := by rw [err_mk]; exact he
  have hin := in_roots rs
  have hml : (ts.map mk).length = ts.length := by simp
  have henc := fun S => (enc_ev (ts.map mk) [lastV] (by rw [hml]; exact hn) _ rs hin (by omega) S).1 he'
  rw [progOf_mk] at henc
  have hcl := err_len ts rs he
  have hel := prog_len2 ts
  have hR := renc_ev ts sp hn rv rs hrv (by omega)
  rw [if_pos he, he] at hR
  have hst := still_ev ts sp hn rv rs hrv hrs hp
  obtain ⟨pr, hpr⟩ : ∃ pr, progOf ts = pr := ⟨_, rfl⟩
  rw [hpr] at henc hcl hel hR
  have hS1 := fun S ca ea h1 h2 => same_ev S pr ca ea h1 h2 (by omega) (by omega)
  have hln1 : (pr.1.map Ins.v).length = pr.1.length := by simp
  have hln2 : (iV pr.2).length = pr.2.length := by simp [iV]
  have hk1 := kbLL_ins pr.1
  have hk2 := kbLL_iV pr.2
  have hr1 : ∀ row ∈ pr.1.map Ins.v, row.length = 4 := fun row h => by
    obtain ⟨p, _, rfl⟩ := List.mem_map.1 h
    rfl
  have hr2 : ∀ row ∈ iV pr.2, row.length = 1 := fun row h => by
    obtain ⟨p, _, rfl⟩ := List.mem_map.1 h
    rfl
  simp only [progV] at hR hS1
  obtain ⟨PC, PE⟩ := pr
  simp only at *
  simp only [ReadsAs] at hS1
  rw [hln1, hln2] at hS1
  generalize PC.map Ins.v = CV at *
  generalize iV PE = EV at *
  generalize PC.length = CL at *
  generalize PE.length = EL at *
  have hb1 : CL ≤ 1048576 := hcl
  have hb2 : EL ≤ 1048576 := by omega
  clear hcl
  have hS2 : ∀ S, ev Q 9 [.agg [.bool true, .rs 4 CV CL, .rs 1 EV EL], .agg [.bool true, .rs 4 CV CL, .rs 1 EV EL]] S = some (.ret (.bool true), S) :=
    fun S => hS1 S _ _ (Or.inr rfl) (Or.inr rfl)
  have hS3 : ∀ S c ec g lo eg elo, S.get c = some (.cells 4 CV g lo) → lo ≤ g → S.get ec = some (.cells 1 EV eg elo) → elo ≤ eg → ev Q 9 [.agg [.bool true, .sl c g 4 0 CL, .sl ec eg 1 0 EL], .agg [.bool true, .rs 4 CV CL, .rs 1 EV EL]] S = some (.ret (.bool true), S) :=
    fun S c ec g lo eg elo h1 h2 h3 h4 => hS1 S _ _ (Or.inl ⟨c, g, lo, rfl, h1, h2⟩) (Or.inl ⟨ec, eg, elo, rfl, h3, h4⟩)
  clear hS1
  obtain ⟨S1, ha1, hu1⟩ := awake_ev (S.push (.cells 2 [[tsV ts sp, rv]] 0 0))
  obtain ⟨S2, id, g, lo, rid, rg, ho, hu2, hid1, hid2, hid3, hlo, hgid, hgr⟩ := own_ev ts sp hn rv rs hrv hrs hp S1
  obtain ⟨S4, c, ec, cg, clo, eg, h4, hu4, hc1, hc2, hc3, hclo, hgc, hge⟩ := henc (((S2.put id .dead).put rid .dead).push (.cells 2 [inV ts rs] 0 0))
  obtain ⟨S6, c2, ec2, cg2, clo2, eg2, h6, hu6, hd1, hd2, hd3, hclo2, hgc2, hge2⟩ := henc (S4.push (.cells 3 [[.bool true, .sl c cg 4 0 CL, .sl ec eg 1 0 EL]] 0 0))
  simp at hc1 hd1
  have t1 : S.top + 1 ≤ S1.top := by have := hu1.1; simpa using this
  have t2 : S1.top ≤ S2.top := hu2.1
  have g1 : S1.get S.top = some (.cells 2 [[tsV ts sp, rv]] 0 0) := by rw [hu1.2 _ (by simp)]; simp
  have g2 : S2.get S.top = some (.cells 2 [[tsV ts sp, rv]] 0 0) := by rw [hu2.2 _ (by omega), g1]
  have t3 : S2.top + 1 ≤ S4.top := by have := hu4.1; simpa using this
  have t4 : S4.top + 1 ≤ S6.top := by have := hu6.1; simpa using this
  have g4 : S4.get S.top = some (.cells 2 [[tsV ts sp, rv]] 0 0) := by rw [hu4.2 _ (by simp; omega), push_get _ _ _ (by simp; omega), put_get_ne _ _ _ _ (by omega), put_get_ne _ _ _ _ (by omega), g2]
  have g4y : S4.get S2.top = some (.cells 2 [inV ts rs] 0 0) := by rw [hu4.2 _ (by simp)]; simp
  have g6 : S6.get S.top = some (.cells 2 [[tsV ts sp, rv]] 0 0) := by rw [hu6.2 _ (by simp; omega), push_get _ _ _ (by omega), g4]
  have g6y : S6.get S2.top = some (.cells 2 [inV ts rs] 0 0) := by rw [hu6.2 _ (by simp; omega), push_get _ _ _ (by omega), g4y]
  have g6z : S6.get S4.top = some (.cells 3 [[.bool true, .sl c cg 4 0 CL, .sl ec eg 1 0 EL]] 0 0) := by rw [hu6.2 _ (by simp)]; simp
  have g6c : S6.get c = some (.cells 4 CV cg clo) := by rw [hu6.2 _ (by simp; omega), push_get _ _ _ (by omega), hgc]
  have g6e : S6.get ec = some (.cells 1 EV eg 0) := by rw [hu6.2 _ (by simp; omega), push_get _ _ _ (by omega), hge]
  obtain ⟨A4, hA4⟩ : ∃ A4 : St, A4 = ((((S6.put c2 .dead).put ec2 .dead).push (.cells 3 [[.bool true, .rs 4 CV CL, .rs 1 EV EL]] 0 0)).push (.cells 3 [[.bool true, .rs 4 CV CL, .rs 1 EV EL]] 0 0)) := ⟨_, rfl⟩
  have t5 : A4.top = S6.top + 2 := by rw [hA4]; simp
  have p5 : A4.pin = S6.pin := by rw [hA4]; simp
  have gA : ∀ j, j < S6.top → j ≠ c2 → j ≠ ec2 → A4.get j = S6.get j := fun j h1 h2 h3 => by
    rw [hA4, push_get _ _ _ (by simp; omega), push_get _ _ _ (by simp; omega), put_get_ne _ _ _ _ (by omega), put_get_ne _ _ _ _ (by omega)]
  have gAx := (gA S.top (by omega) (by omega) (by omega)).trans g6
  have gAy := (gA S2.top (by omega) (by omega) (by omega)).trans g6y
  have gAz := (gA S4.top (by omega) (by omega) (by omega)).trans g6z
  have gAc := (gA c (by omega) (by omega) (by omega)).trans g6c
  have gAe := (gA ec (by omega) (by omega) (by omega)).trans g6e
  have gAb : A4.get S6.top = some (.cells 3 [[.bool true, .rs 4 CV CL, .rs 1 EV EL]] 0 0) := by rw [hA4]; simp
  have gAw : A4.get (S6.top + 1) = some (.cells 3 [[.bool true, .rs 4 CV CL, .rs 1 EV EL]] 0 0) := by rw [hA4]; simp
  have hs1 := hS3 A4 c ec cg clo eg 0 gAc hclo gAe (by omega)
  obtain ⟨l0, lo5, hlo5, hw0, k0⟩ := wr0_loop S2.top S4.top S6.top (S6.top + 1) 0 c cg CL (.bool true) (.sl ec eg 1 0 EL) (by omega) (by omega) CL 0 A4 CV clo (by omega) (by omega) (by omega) (by omega) gAz (by simpa using gAc) hclo (by omega) hr1
  obtain ⟨A5, hA5⟩ : ∃ A5 : St, A5 = A4.put c (.cells 4 (List.replicate CL offI) cg lo5) := ⟨_, rfl⟩
  rw [← hA5] at hw0
  have t6 : A5.top = S6.top + 2 := by rw [hA5]; simp [t5]
  have p6 : A5.pin = S6.pin := by rw [hA5]; simp [p5]
  have hcA4 := get_lt _ _ gAc
  obtain ⟨l2, lo6, hlo6, hw2, k2⟩ := wr2_loop S2.top S4.top S6.top (S6.top + 1) 0 ec eg EL (.bool true) (.sl c cg 4 0 CL) (by omega) (by omega) EL 0 A5 EV 0 (by omega) (by omega) (by omega) (by omega) (by rw [hA5, put_get_ne _ _ _ _ (by omega), gAz]) (by rw [hA5, put_get_ne _ _ _ _ (by omega)]; simpa using gAe) (by omega) (by omega) hr2
  obtain ⟨A6, hA6⟩ : ∃ A6 : St, A6 = A5.put ec (.cells 1 (List.replicate EL offE) eg lo6) := ⟨_, rfl⟩
  rw [← hA6] at hw2
  have t7 : A6.top = S6.top + 2 := by rw [hA6]; simp [t6]
  have p7 : A6.pin = S6.pin := by rw [hA6]; simp [p6]
  have hcA5 : c < A5.top := by omega
  have heA5 : ec < A5.top := by omega
  have gA6 : ∀ j, j ≠ c → j ≠ ec → A6.get j = A4.get j := fun j h1 h2 => by
    rw [hA6, put_get_ne _ _ _ _ (by omega), hA5, put_get_ne _ _ _ _ (by omega)]
  have g6z' := (gA6 S4.top (by omega) (by omega)).trans gAz
  have g6c' : A6.get c = some (.cells 4 (List.replicate CL offI) cg lo5) := by rw [hA6, put_get_ne _ _ _ _ (by omega), hA5, put_get_if, if_pos ⟨rfl, hcA4⟩]
  have g6e' : A6.get ec = some (.cells 1 (List.replicate EL offE) eg lo6) := by rw [hA6, put_get_if, if_pos ⟨rfl, heA5⟩]
  have gA6y := (gA6 S2.top (by omega) (by omega)).trans gAy
  have gA6b := (gA6 S6.top (by omega) (by omega)).trans gAb
  have gA6w := (gA6 (S6.top + 1) (by omega) (by omega)).trans gAw
  have hby1 : (CL + 1) * 32 ≤ 140737488355328 := by omega
  have hby2 : (EL + 1) * 8 ≤ 140737488355328 := by omega
  obtain ⟨A9, hA9⟩ : ∃ A9 : St, A9 = ((((A6.put c (.cells 4 (List.replicate CL offI ++ [endI]) (cg + 1) lo5)).put ec (.cells 1 (List.replicate EL offE ++ [endE]) (eg + 1) lo6)).push (.cells 4 [endI] 0 0)).push (.cells 1 [endE] 0 0)) := ⟨_, rfl⟩
  have t9 : A9.top = S6.top + 4 := by rw [hA9]; simp [t7]
  have g9 : ∀ j, j < S6.top + 2 → j ≠ c → j ≠ ec → A9.get j = A6.get j := fun j h1 h2 h3 => by
    rw [hA9, push_get _ _ _ (by simp; omega), push_get _ _ _ (by simp; omega), put_get_ne _ _ _ _ (by omega), put_get_ne _ _ _ _ (by omega)]
  have g9y := (g9 S2.top (by omega) (by omega) (by omega)).trans gA6y
  have g9z := (g9 S4.top (by omega) (by omega) (by omega)).trans g6z'
  have g9b := (g9 S6.top (by omega) (by omega) (by omega)).trans gA6b
  have g9w := (g9 (S6.top + 1) (by omega) (by omega) (by omega)).trans gA6w
  have g9c : A9.get c = some (.cells 4 (List.replicate CL offI ++ [endI]) (cg + 1) lo5) := by
    rw [hA9, push_get _ _ _ (by simp; omega), push_get _ _ _ (by simp; omega), put_get_ne _ _ _ _ (by omega), put_get_if, if_pos ⟨rfl, by omega⟩]
  have g9e : A9.get ec = some (.cells 1 (List.replicate EL offE ++ [endE]) (eg + 1) lo6) := by
    rw [hA9, push_get _ _ _ (by simp; omega), push_get _ _ _ (by simp; omega), put_get_if, if_pos ⟨rfl, by simp; omega⟩]
  obtain ⟨l4, hr4, k4, k4a, k4b⟩ := rd4_loop S2.top S4.top S6.top (S6.top + 1) 0 A9 c cg lo5 CL (.bool true) (.sl ec eg 1 0 EL) (.sl ec (eg + 1) 1 0 (EL + 1)) (by omega) (by omega) (by omega) (by simp; omega) g9z g9c (by omega) (by omega) CL 0 (by omega)
  obtain ⟨l6, hr6, k6, k6a, k6b⟩ := rd6_loop S2.top S4.top S6.top (S6.top + 1) 0 A9 ec eg lo6 EL (.bool true) (.sl c cg 4 0 CL) (.sl c (cg + 1) 4 0 (CL + 1)) (by omega) (by omega) (by omega) (by simp; omega) g9z g9e (by omega) (by omega) EL 0 (by omega)
  obtain ⟨S10, d3, f3, cg3, clo3, eg3, h10, hu10, hf1, hf2, hf3, hclo3, hgc3, hge3⟩ := henc A9
  have t10 : S6.top + 4 ≤ S10.top := by have := hu10.1; omega
  have g10z := (hu10.2 S4.top (by omega)).trans g9z
  have g10b := (hu10.2 S6.top (by omega)).trans g9b
  have g10w := (hu10.2 (S6.top + 1) (by omega)).trans g9w
  have g10c := (hu10.2 c (by omega)).trans g9c
  have g10e := (hu10.2 ec (by omega)).trans g9e
  have hR1 : (List.replicate CL offI ++ [endI])[CL]? = some endI := by rw [List.getElem?_append_right (by simp)]; simp
  have hR2 : (List.replicate EL offE ++ [endE])[EL]? = some endE := by rw [List.getElem?_append_right (by simp)]; simp
  obtain ⟨k41, k42, k43, k44, k45⟩ := k4
  obtain ⟨k61, k62, k63, k64, k65⟩ := k6
  have hR1l : (List.replicate CL offI ++ [endI]).length = CL + 1 := by simp
  have hR2l : (List.replicate EL offE ++ [endE]).length = EL + 1 := by simp
  have t9' : A9.top = A6.top + 2 := by omega
  have p9' : A9.pin = A6.pin := by rw [hA9]; simp
  rw [t9', p9'] at hr4
  simp only [L4] at hr4 hr6
  simp only [endI, endE] at hA9 hR1 hR2
  have c1 : S.top < S6.top := by omega
  have c2' : S2.top < S6.top := by omega
  have c3' : S4.top < S6.top := by omega
  have c9 : S2.top < S4.top := by omega
  have c10 : S.top < S4.top := by omega
  have hkm : kbLL ((ts.map mk).map Typ.v ++ [lastV]) = 0 := kbLL_app0 _ _ (kbLL_typ _) (by simp [lastV])
  have hkr := kbLL_root rs
  have hRl : (rs.map rootV).length = rs.length := by simp
  have b1 : id < S2.top := by omega
  have b2 : c < S4.top := by omega
  have b3 : c2 < S6.top := by omega
  have hrows : (ts.map fun t => (mk t).v) = (ts.map mk).map Typ.v := by rw [List.map_map]; rfl
  rw [hrows] at hgid
  have hMl : ((ts.map mk).map Typ.v ++ [lastV]).length = ts.length + 1 := by simp
  have hle1 : ts.length ≤ ts.length + 1 := by omega
  obtain ⟨k01, k02, k03, k04, k05⟩ := k0
  obtain ⟨k21, k22, k23, k24, k25⟩ := k2
  have n1 : ¬ (c = ec) := by omega
  have n2 : ¬ (c2 = ec2) := by omega
  have n3 : ¬ (c2 = S.top) := by omega
  have n4 : ¬ (ec2 = S.top) := by omega
  have n5 : ¬ (c = S4.top) := by omega
  have n6 : ¬ (ec = S4.top) := by omega
  have n7 : ¬ (c2 = S4.top) := by omega
  have n8 : ¬ (ec2 = S4.top) := by omega
  have n9 : ¬ (c2 = S2.top) := by omega
  have n10 : ¬ (ec2 = S2.top) := by omega
  have hmx : max c ec + 1 ≤ S4.top := by omega
  simp only [L0] at hw0 hw2
  simp only [tsV, inV, hml] at *
  generalize hM : (ts.map mk).map Typ.v ++ [lastV] = M at *
  generalize hN : ts.map Typ.v ++ sp = N at *
  generalize rs.map rootV = RV at *
  simp at hw0 hw2 hr4 hr6
  rw [ev_eq q3, c3, evFn_eq _ _ _ _ _ _ _ (by simp)]
  simp [ha1, ho, g1, g2, hgid, hgr, hlo, hkm, hkr, below hid3, below hid2, below b1, h4, h6, hkb, set_mk, hMl, hRl, hle1, hR _, g4, g4y, g6, g6y, g6z, g6c, g6e, hgc, hge, hgc2, hge2, hclo, hclo2, below c1, below c2', below c3', below c9, below c10, below hc3, below b2, below hd3, below b3, hmx, n1, n2, n3, n4, n7, n8, n9, n10, hk1, hk2, hln1, hln2]
  rw [← hA4]
  clear hA4
  simp [hs1, hS2, hst _, gAx, gAy, gAz, gAb, gAw, below (show S.top < A4.top by omega), hw0, hw2, k01, k02, k03, k04, k05, k21, k22, k23, k24, k25, g6z', g6c', g6e', hlo5, hlo6, n1, n5, n6, below (show c < A6.top by omega), below (show ec < A6.top by omega), below (show S4.top < A6.top by omega), endI, endE, hby1, hby2]
  rw [← hA9]
  clear hA9
  simp only [endI, endE] at g10c g10e g9c g9e hR1l hR2l
  generalize List.replicate CL offI ++ [[V.int IntKind.i64 (-2), V.int IntKind.i64 0, V.int IntKind.i64 0, V.int IntKind.i64 0]] = RC at *
  generalize List.replicate EL offE ++ [[V.int IntKind.i64 (-2)]] = RE at *
  have m1 : ¬ (d3 = S4.top) := by omega
  have m2 : ¬ (f3 = S4.top) := by omega
  have m3 : ¬ (d3 = S6.top) := by omega
  have m4 : ¬ (f3 = S6.top) := by omega
  have m5 : ¬ (d3 = S6.top + 1) := by omega
  have m6 : ¬ (f3 = S6.top + 1) := by omega
  have m7 : ¬ (d3 = c) := by omega
  have m8 : ¬ (f3 = c) := by omega
  have m9 : ¬ (d3 = ec) := by omega
  have m10 : ¬ (f3 = ec) := by omega
  have m11 : ¬ (d3 = f3) := by omega
  simp [hr4, hr6, g9y, g9z, h10, hgc3, hge3, hclo3, hk1, hk2, hln1, hln2, g10z, g10b, g10w, g10c, g10e, below (show S4.top < S10.top by omega), below (show S6.top < S10.top by omega), below (show S6.top + 1 < S10.top by omega), below (show c < S10.top by omega), below (show ec < S10.top by omega), below hf3, below (show d3 < S10.top by omega), m1, m2, m3, m4, m5, m6, m7, m8, m9, m10, m11, set_mk, k41, k42, k43, k44, k45, k4a, k4b, k61, k62, k63, k64, k65, k6a, k6b, hS2, hR1, hR2, hlo5, hlo6, show lo5 ≤ cg + 1 by omega, show lo6 ≤ eg + 1 by omega, show (CL : Int) < (CL : Int) + 1 by omega, show (EL : Int) < (EL : Int) + 1 by omega]
end Mev
