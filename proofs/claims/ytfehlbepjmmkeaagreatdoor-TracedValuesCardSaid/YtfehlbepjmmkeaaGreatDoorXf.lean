/-
  DERIVED. An abstract machine, and that its runs are runs of the model: part 6 of 11. No condition.
-/
import Derived.Test.YtfehlbepjmmkeaaGreatDoorXe
namespace Go.Proofs.YtfehlbepjmmkeaaGreatDoor
open Go.RowKit
namespace Ex
noncomputable section
variable {P : Program} {C : T PF} {φ : Nat → Loc} {dm : Nat → Prop} {bs : List Frame} {s s' : AS} {fr : Frame} {frs cs : List Frame} {w w' : World} {k : List Item} {g : Nat → Option AV} {a : Act} {H H' : AH} {v : AV}
theorem prepM_new {o : Oper} {ir : IR} (h : prepM P o.op = ir) (hc : ir.cls = 3) {K K' : AH} {lo : Nat} (A : AtNew dm K K' H H') (hlo : lo ≤ K.next) (hv : onceIR g K ir = some (v, K')) (R : RR φ dm g a) (hr : Rel P φ dm H w) :
    GoodS lo K.next P φ dm H w ((execOp a.eval o).run P w) v H' := by
  obtain ⟨dst, op, type, pos, after, guard⟩ := o
  simp only at h
  cases op
  case alloc t =>
    simp only [prepM] at h
    split at h
    · rename_i l h1; subst h; exact al_new h1 A hlo hv hr
    · subst h; simp [IR.cls] at hc
  case box t x =>
    simp only [prepM] at h
    split at h
    · rename_i u h1; subst h; exact al_box h1 A hlo hv R hr
    · subst h; simp [IR.cls] at hc
  case buildSlice t n parts =>
    simp only [prepM] at h
    split at h
    · rename_i e h1
      split at h
      · rename_i s z h2 h3
        split at h
        · rename_i ps h4
          split at h
          · rename_i h5; subst h; exact al_row h1 h2 h3 h4 h5 A hlo hv R hr
          · subst h; simp [IR.cls] at hc
        · subst h; simp [IR.cls] at hc
      · subst h; simp [IR.cls] at hc
    · subst h; simp [IR.cls] at hc
  case makeSlice t l c =>
    simp only [prepM] at h
    split at h
    · rename_i e h1
      split at h
      · rename_i s z l' c' h2 h3 h4 h5
        split at h
        · rename_i h6; subst h; exact al_makeS h1 h2 h3 h4 h5 h6 A hlo hv R hr
        · subst h; simp [IR.cls] at hc
      · subst h; simp [IR.cls] at hc
    · subst h; simp [IR.cls] at hc
  case makeMap t r =>
    cases r with
    | none => simp only [prepM] at h; subst h; exact al_makeM_none A hlo hv hr
    | some r =>
      simp only [prepM] at h
      split at h
      · rename_i k e u h1 h2; subst h; exact al_makeM_some h1 h2 A hlo hv R hr
      · subst h; simp [IR.cls] at hc
  case slice t x lo hi mx =>
    cases mx with
    | some m => simp only [prepM] at h; subst h; simp [IR.cls] at hc
    | none =>
      simp only [prepM] at h
      repeat' split at h
      all_goals (subst h; simp [IR.cls] at hc)
  case next it b =>
    cases b with
    | true => simp only [prepM] at h; subst h; simp [IR.cls] at hc
    | false =>
      simp only [prepM] at h
      repeat' split at h
      all_goals (subst h; simp [IR.cls] at hc)
  all_goals
    simp only [prepM] at h
    first
      | (subst h; simp [IR.cls] at hc; done)
      | (repeat' split at h
         all_goals (subst h; simp [IR.cls] at hc))
theorem reads_same {ir : IR} (h : onceIR g H ir = some (v, H')) (hc : ir.cls = 1) : H' = H := by
  cases ir <;> first | (simp [IR.cls] at hc; done) | skip
  all_goals
    simp only [onceIR] at h
    repeat' split at h
    all_goals first
      | contradiction
      | (injection h with h; injection h with _ h; exact h.symm)
theorem cls_once {ir : IR} (hc : ir.cls ≠ 2) : ir.once = true := by
  cases ir <;> first | rfl | (exact absurd rfl hc)
theorem good_once (E : Ext P) {op : Oper} {ir : IR} (hir : ir = prepOp P op.op) (R : RR φ dm g a) (hr : Rel P φ dm H w) (ho : ir.once = true) (hv : onceIR g H ir = some (v, H')) : Good P φ dm H w ((execOp a.eval op).run P w) v H' := by
  rcases prepOp_cases hir.symm with ⟨x, hx1, hx2⟩ | hx
  · rw [hx2] at hv
    simp only [onceIR] at hv
    split at hv
    · rename_i u hu
      injection hv with hv
      injection hv with h1 h2
      subst h1 h2
      obtain ⟨e1, e2⟩ := prepP_sound (P := P) hx1 R hu w
      exact Good.still e1 e2 hr
    · contradiction
  · exact prepM_sound E hx ho hv R hr
theorem once_nodefer {op : Op} (ho : (prepOp P op).once = true) : ∀ c, op ≠ .defer c := by
  intro c hc
  rw [hc] at ho
  have : prepP P (.defer c) = none := rfl
  simp only [prepOp, this, prepM] at ho
  split at ho
  · split at ho <;> simp [IR.once] at ho
  · simp [IR.once] at ho
theorem wanted_rr {ops : Array Oper} {o : Oper} {tmps : Array Value} {b : Bool} (h : wanted g (guardOf ops o) = some b) (R : ∀ t v, g t = some v → tmps.getD t undef = conc φ v) : Region.wanted o (yielded ops tmps) = b := by
  unfold guardOf at h
  unfold Region.wanted
  cases hg : o.guard with
  | none => rw [hg] at h; simpa [wanted] using h
  | some gw =>
    obtain ⟨j, want⟩ := gw
    rw [hg] at h
    simp only at h ⊢
    cases hd : (ops[j]?).bind (·.dst) with
    | none =>
      rw [hd] at h
      simp [wanted] at h
    | some d =>
      rw [hd] at h
      simp only [wanted] at h
      split at h
      · rename_i c hc
        injection h with h
        have h2 := R d _ hc
        have h3 : tmps[d]? = some (.bool c) := by
          simp only [Array.getD_eq_getD_getElem?, conc] at h2
          cases hx : tmps[d]? with
          | none => rw [hx] at h2; simp [undef] at h2
          | some y => rw [hx] at h2; simp at h2; rw [h2]
        have hy : yielded ops tmps j = some c := by simp [yielded, hd, h3]
        rw [hy, ← h]
        cases c <;> cases want <;> rfl
      · rename_i hc
        injection h with h
        have h2 := R d _ hc
        have hy : yielded ops tmps j = none := by
          simp only [Array.getD_eq_getD_getElem?, conc, concL] at h2
          simp only [yielded, hd, Option.bind_some]
          cases hx : tmps[d]? with
          | none => rfl
          | some y => rw [hx] at h2; simp at h2; rw [h2]
        rw [hy, ← h]
        rfl
      · contradiction
section
variable {hi lo nt : Nat} {d : DS} {ops : Array Oper} {idx l : List Nat} {tmps : Array Value} {F pre : List DO} {e : DO}
theorem DInv.rr (D : DInv P φ dm hi lo nt d ops (e.i :: l) tmps F pre) (he : e ∈ d.cur.toList ++ d.rest) (hF : e ∈ F) : ∀ t v, only e.rs d.ρ t = some v → sc dm v ∧ tmps.getD t undef = conc φ v := by
  intro t v ht
  unfold only at ht
  split at ht
  · rename_i hrs
    refine D.reg t v ht fun p hp hpi hpd => ?_
    obtain ⟨x, hx1, hx2, hx3, hx4⟩ := D.pin p hp
    have := pairD_rs (D.pairs x hx1 e he) (.inl (by rw [hx3, hpd]; exact hrs))
    rw [hx2] at this
    exact D.lin.1 e hF rfl _ this hpi
  · contradiction
theorem DInv.rrP (D : DInv P φ dm hi lo nt d ops (e.i :: l) tmps F pre) {p : Pd} (hp : p ∈ d.pend) (hpi : p.i = e.i) (hF : e ∈ F) (ho : e.o = p.o) : ∀ t v, p.g t = some v → sc dm v ∧ tmps.getD t undef = conc φ v := by
  intro t v ht
  refine D.rp p hp (by rw [hpi]; simp) t v ht fun q hq hqi haf => ?_
  rw [← ho] at haf
  exact absurd hqi (D.lin.1 e hF rfl _ haf)
theorem DInv.caught (D : DInv P φ dm hi lo nt d ops (e.i :: l) tmps F pre) {p : Pd} (hp : p ∈ d.pend) (hpi : p.i = e.i) (hF : e ∈ F) (hpre : e ∈ pre) (ho : e.o = p.o) (hn : nt ≤ tmps.size) {φ' : Nat → Loc} {dm' : Nat → Prop} (hd : ∀ b, dm b → dm' b) (hph : ∀ b, dm b → φ' b = φ b)
    (hv : sc dm' p.v) (hfresh : ∀ c, dm' c → dm c ∨ hi ≤ c ∨ ∃ x, p.al = some (c, x)) : DInv P φ' dm' hi lo nt d ops l (putR tmps p.o.dst (conc φ' p.v)) F pre := by
  obtain ⟨M, hM1, hM2⟩ := D.M
  have hil : e.i ∉ l := D.lin.2.1
  have hpd := D.pdst p hp
  refine
  { ok := D.ok, lin := D.lin.2.2, cover := fun i hi' => D.cover i (List.mem_cons_of_mem _ hi'), aft := D.aft, inj := D.inj, split := D.split, M := ⟨M, hM1, hM2⟩, pairs := D.pairs
    todo := fun y hy => ?_
    done := fun x hx hxi => D.done x hx (List.mem_cons_of_mem _ hxi)
    pin := D.pin, pdst := D.pdst, one := D.one, dsts := D.dsts, a1 := D.a1, a2 := D.a2, pok := D.pok
    res := fun q hq hqi b x hb => ?_
    reg := fun t u hu hno => ?_
    rp := fun q hq hqi t u hu hno => ?_
    rdst := fun q hq q' hq' hqi hqi' => D.rdst q hq q' hq' (List.mem_cons_of_mem _ hqi) (List.mem_cons_of_mem _ hqi') }
  · have h1 := D.todo y hy
    refine (List.mem_cons.1 h1).resolve_left fun hye => ?_
    have := chkD_fresh hM2 y hy
    rw [hye, (hM1 e.i).2 ⟨e, hpre, rfl⟩] at this
    cases this
  · obtain ⟨h1, h2, h3⟩ := D.res q hq (List.mem_cons_of_mem _ hqi) b x hb
    refine ⟨fun hdb => ?_, h2, h3⟩
    rcases hfresh b hdb with h4 | h4 | ⟨x', h4⟩
    · exact h1 h4
    · omega
    · have := D.rdst p hp q hq (by rw [hpi]; simp) (List.mem_cons_of_mem _ hqi) b x' b x h4 hb rfl
      rw [hpi] at this
      exact hil (this ▸ hqi)
  · rw [putR_get hpd hn]
    by_cases hpt : p.o.dst = some t
    · rw [if_pos hpt]
      have := D.a1 p hp t hpt
      rw [hu] at this
      injection this with this
      subst this
      exact ⟨hv, rfl⟩
    · rw [if_neg hpt]
      obtain ⟨h1, h2⟩ := D.reg t u hu fun q hq hqi => by
        rcases List.mem_cons.1 hqi with hqe | hqi
        · rw [D.one q hq p hp (hqe.trans hpi.symm)]; exact hpt
        · exact hno q hq hqi
      exact ⟨sc_mono hd u h1, by rw [conc_ext hph u h1]; exact h2⟩
  · rw [putR_get hpd hn]
    by_cases hpt : p.o.dst = some t
    · rw [if_pos hpt]
      have hne : p.i ≠ q.i := by rw [hpi]; rintro h; exact hil (h ▸ hqi)
      rcases D.a2 p hp q hq hne t u hpt hu with ⟨_, h2⟩ | h2
      · rw [h2]; exact ⟨hv, rfl⟩
      · rw [← ho] at h2
        exact absurd (List.mem_cons_of_mem _ hqi) (D.lin.1 e hF rfl _ h2)
    · rw [if_neg hpt]
      obtain ⟨h1, h2⟩ := D.rp q hq (List.mem_cons_of_mem _ hqi) t u hu fun q' hq' hqi' haf => by
        rcases List.mem_cons.1 hqi' with hqe | hqi'
        · rw [D.one q' hq' p hp (hqe.trans hpi.symm)]; exact hpt
        · exact hno q' hq' hqi' haf
      exact ⟨sc_mono hd u h1, by rw [conc_ext hph u h1]; exact h2⟩
theorem fin_putR {i : Nat} {op : Oper} {u : Value} (ht : fr.todo = .inRegion ops (i :: l) :: k) (ho : ops[i]? = some op) : fr.finish u = { fr with tmps := putR fr.tmps op.dst u, todo := .inRegion ops l :: k } := by
  simp only [Frame.finish, ht, ho, Option.bind_some]
  cases op.dst <;> rfl
theorem catch1 (E : Ext P) (hm : fr.mode = .run) (ht : fr.todo = .inRegion ops (e.i :: l) :: k) (D : DInv P φ dm hi lo nt d ops (e.i :: l) fr.tmps F pre) (hn : nt ≤ fr.tmps.size) (hr : Rel P φ dm H w) (hhi : hi ≤ H.next) (hloH : lo ≤ H.next) {p : Pd} (hp : p ∈ d.pend) (hpi : p.i = e.i) (hF : e ∈ F) (hpre : e ∈ pre) (ho : e.o = p.o)
    (hok : nowOk H p = true) : ∃ φ' dm' w' tmps', step P (lone fr cs w) = .next (lone { fr with tmps := tmps', todo := .inRegion ops l :: k } cs w') ∧ Rel P φ' dm' H w' ∧ GrowS lo φ dm H w φ' dm' H w' ∧ DInv P φ' dm' hi lo nt d ops l tmps' F pre ∧ nt ≤ tmps'.size := by
  obtain ⟨op, ho1, ho2, ho3, ho4⟩ := D.ok e hF
  have hrr := D.rrP hp hpi hF ho
  have hwr : ∀ b, wanted p.g p.o.guard = some b → Region.wanted op (yielded ops fr.tmps) = b := fun b hb => wanted_rr (φ := φ) (by rw [← ho3, ho]; exact hb) fun t v h => (hrr t v h).2
  have RRp : RR φ dm p.g ⟨fr.tmps, fr.defers⟩ := ⟨hrr, hr.glob⟩
  have heval : (Act.mk fr.tmps fr.defers).eval = fr.eval := by funext x; cases x <;> rfl
  have fin : ∀ {nx : Next} {φ' : Nat → Loc} {dm' : Nat → Prop} {w' : World}, wanted p.g p.o.guard = some true → (execOp fr.eval op).run P w = .ok nx w' → (nx = .value (conc φ' p.v) ∨ (nx = .skip ∧ p.v = .tup [])) → sc dm' p.v → Rel P φ' dm' H w' → GrowS lo φ dm H w φ' dm' H w' →
      (∀ c, dm' c → dm c ∨ hi ≤ c ∨ ∃ x, p.al = some (c, x)) → p.o.ir.once = true →
      ∃ φ' dm' w' tmps', step P (lone fr cs w) = .next (lone { fr with tmps := tmps', todo := .inRegion ops l :: k } cs w') ∧ Rel P φ' dm' H w' ∧ GrowS lo φ dm H w φ' dm' H w' ∧ DInv P φ' dm' hi lo nt d ops l tmps' F pre ∧ nt ≤ tmps'.size := by
    intro nx φ' dm' w' hw hx hnx hsc hr' hg hf honce
    have hnd := once_nodefer (P := P) (op := op.op) (by rw [← ho4, ho]; exact honce)
    refine ⟨φ', dm', w', putR fr.tmps p.o.dst (conc φ' p.v), ?_, hr', hg, D.caught hp hpi hF hpre ho hn hg.dms hg.ph hsc hf, by rw [putR_size]; exact hn⟩
    have hfin := fin_putR (u := conc φ' p.v) ht ho1
    rw [← ho2, ho] at hfin
    rw [← hfin]
    rcases hnx with rfl | ⟨rfl, hv⟩
    · exact st_value hm ht ho1 (hwr true hw) (.inr hnd) hx
    · rw [hv]; exact st_skipped hm ht ho1 (hwr true hw) (.inr hnd) hx
  have hpok := D.pok p hp
  unfold PdOk at hpok
  unfold nowOk at hok
  cases hal : p.al with
  | none =>
    rw [hal] at hpok hok
    simp only at hpok hok
    rcases hpok with ⟨hw, hv⟩ | ⟨hw, hc | ⟨x, hx1, hx2⟩⟩
    · refine ⟨φ, dm, w, putR fr.tmps p.o.dst (conc φ p.v), ?_, hr, .refl _ _ _ _ _, D.caught hp hpi hF hpre ho hn (fun _ h => h) (fun _ _ => rfl) (by rw [hv]; simp [sc, scL]) (fun c h => .inl h), by rw [putR_size]; exact hn⟩
      have hfin := fin_putR (u := conc φ p.v) ht ho1
      rw [← ho2, ho] at hfin
      rw [← hfin, hv]
      exact st_opSkip hm ht (by rw [ho1]; exact hwr false hw)
    · rw [hc] at hok
      simp only [hw] at hok
      split at hok
      · rename_i v1 H1 hv1
        have := avEq_eq hok
        subst this
        have := reads_same hv1 hc
        subst this
        have ho' : p.o.ir.once = true := cls_once (by rw [hc]; decide)
        obtain ⟨φ', dm', w', nx, e1, e2, e3, e4, e5⟩ := good_once E (op := op) (by rw [← ho4, ho]) RRp hr ho' hv1
        rw [heval] at e1
        exact fin hw e1 e2 e3 e4 (e5.s hloH) (fun c hc => (e5.fresh c hc).imp id fun h => .inl (Nat.le_trans hhi h)) ho'
      · cases hok
    · have hv1 : onceIR p.g H p.o.ir = some (p.v, H) := by rw [hx1]; simp only [onceIR, hx2]
      have ho' : p.o.ir.once = true := by rw [hx1]; rfl
      obtain ⟨φ', dm', w', nx, e1, e2, e3, e4, e5⟩ := good_once E (op := op) (by rw [← ho4, ho]) RRp hr ho' hv1
      rw [heval] at e1
      exact fin hw e1 e2 e3 e4 (e5.s hloH) (fun c hc => (e5.fresh c hc).imp id fun h => .inl (Nat.le_trans hhi h)) ho'
  | some bx =>
    obtain ⟨b, x⟩ := bx
    rw [hal] at hpok hok
    simp only at hpok hok
    obtain ⟨hw, hc, K, hK1, hK2⟩ := hpok
    split at hok
    · rename_i y hy
      have hxy := bEq_eq hok
      subst hxy
      obtain ⟨r1, r2, r3⟩ := D.res p hp (by rw [hpi]; simp) b x hal
      have A : AtNew dm ⟨.E, b⟩ K H H := ⟨r1, fun k => by
        by_cases hk : k = b
        · subst hk; rw [if_pos rfl, hy, hK2]
        · rw [if_neg hk], Nat.le_refl _, Nat.lt_of_lt_of_le r2 hhi⟩
      have ho' : p.o.ir.once = true := cls_once (by rw [hc]; decide)
      have hpm : prepM P op.op = p.o.ir := by
        rw [← ho, ho4]
        rcases prepOp_cases (P := P) (op := op.op) rfl with ⟨z, _, hz⟩ | hz
        · rw [← ho, ho4, hz] at hc; simp [IR.cls] at hc
        · exact hz
      obtain ⟨φ', dm', w', nx, e1, e2, e3, e4, e5, e6⟩ := prepM_new hpm hc A r3 hK1 RRp hr
      rw [heval] at e1
      exact fin hw e1 e2 e3 e4 e5 (fun c hc => (e6 c hc).imp id fun h => .inr ⟨x, by rw [h]; exact hal⟩) ho'
    · cases hok
theorem catchUp (E : Ext P) (hc : d.cur = none) (hok : ∀ p ∈ d.pend, nowOk H p = true) (hhi : hi ≤ H.next) (hloH : lo ≤ H.next) : ∀ (idx : List Nat) {φ : Nat → Loc} {dm : Nat → Prop} {w : World} {fr : Frame}, fr.mode = .run → fr.todo = .inRegion ops idx :: k → DInv P φ dm hi lo nt d ops idx fr.tmps F pre → nt ≤ fr.tmps.size → Rel P φ dm H w →
    ∃ φ' dm' w' tmps' idx', Steps P (lone fr cs w) (lone { fr with tmps := tmps', todo := .inRegion ops idx' :: k } cs w') ∧ Rel P φ' dm' H w' ∧ GrowS lo φ dm H w φ' dm' H w' ∧ DInv P φ' dm' hi lo nt d ops idx' tmps' F pre ∧ nt ≤ tmps'.size ∧
      (idx' = [] ∨ ∃ x ∈ d.rest, ∃ l, idx' = x.i :: l ∧ ∀ j, x.o.after.testBit j = true → ∃ z ∈ pre, z.i = j)
  | [], φ, dm, w, fr, hm, ht, D, hn, hr => ⟨φ, dm, w, fr.tmps, [], by rw [← ht]; exact Steps.refl P _, hr, .refl _ _ _ _ _, D, hn, .inl rfl⟩
  | i :: l, φ, dm, w, fr, hm, ht, D, hn, hr => by
    obtain ⟨x, hx1, hx2⟩ := D.cover i (by simp)
    subst hx2
    have hsp := D.split
    rw [hc] at hsp
    simp only [Option.toList, List.nil_append] at hsp
    have hx1' := hx1
    rw [hsp] at hx1'
    rcases List.mem_append.1 hx1' with hx | hx
    · obtain ⟨p, hp1, hp2⟩ := D.done x hx (by simp)
      obtain ⟨x', hx1'', hx2'', hx3'', _⟩ := D.pin p hp1
      have hxx : x' = x := D.inj x' (by rw [hsp]; simp [hx1'']) x hx1 (hx2''.trans hp2)
      subst hxx
      obtain ⟨φ1, dm1, w1, tmps1, s1, r1, g1, D1, n1⟩ := catch1 (cs := cs) E hm ht D hn hr hhi hloH hp1 hp2 hx1 hx hx3'' (hok p hp1)
      obtain ⟨φ2, dm2, w2, tmps2, idx2, s2, r2, g2, D2, n2, q2⟩ := catchUp E hc hok hhi hloH l (fr := { fr with tmps := tmps1, todo := .inRegion ops l :: k }) (by exact hm) rfl D1 n1 r1
      exact ⟨φ2, dm2, w2, tmps2, idx2, (Steps.one s1).trans s2, r2, g1.trans g2 (Nat.le_refl _), D2, n2, q2⟩
    · refine ⟨φ, dm, w, fr.tmps, x.i :: l, by rw [← ht]; exact Steps.refl P _, hr, .refl _ _ _ _ _, D, hn, .inr ⟨x, hx, l, rfl, fun j hj => ?_⟩⟩
      obtain ⟨z, hz1, hz2⟩ := D.aft x hx1 j hj
      rw [hsp] at hz1
      rcases List.mem_append.1 hz1 with hz | hz
      · exact ⟨z, hz, hz2⟩
      · have := D.todo z (by rw [hc]; simp [hz])
        rw [hz2] at this
        exact absurd this (D.lin.1 x hx1 rfl j hj)
end
end
end Ex
end Go.Proofs.YtfehlbepjmmkeaaGreatDoor
namespace Go.Proofs.YtfehlbepjmmkeaaGreatDoor
open Go.RowKit
namespace Ex
noncomputable section
variable {P : Program} {C : T PF} {φ : Nat → Loc} {dm : Nat → Prop} {bs : List Frame} {s s' : AS} {fr : Frame} {frs cs : List Frame} {w w' : World} {k : List Item} {g : Nat → Option AV} {a : Act} {H H' : AH} {v : AV}
variable {hi lo nt : Nat} {d : DS} {ops : Array Oper} {idx l : List Nat} {tmps : Array Value} {F pre : List DO} {e : DO} {rest : List DO}
theorem DInv.ahead (D : DInv P φ dm hi lo nt d ops idx tmps F pre) (hc : d.cur = none) (hr : d.rest = e :: rest) (hok : regOk nt e.o.dst = true) {al : Option (Nat × ABlk)} (hpok : PdOk ⟨e.i, e.o, only e.rs d.ρ, v, al⟩)
    {hi' : Nat} (hh : hi ≤ hi') (hal : ∀ b x, al = some (b, x) → ¬ dm b ∧ b = hi ∧ b < hi' ∧ lo ≤ b) :
    DInv P φ dm hi' lo nt { ρ := Ex.reg d.ρ e.o.dst v, pend := ⟨e.i, e.o, only e.rs d.ρ, v, al⟩ :: d.pend, rest, cur := none } ops idx tmps F (pre ++ [e]) := by
  obtain ⟨M, hM1, hM2⟩ := D.M
  rw [hc, hr] at hM2
  simp only [Option.toList, List.nil_append] at hM2
  have hcur : d.cur.toList ++ d.rest = e :: rest := by rw [hc, hr]; rfl
  have heF : e ∈ F := by rw [D.split, hcur]; simp
  have hM3 := hM2
  simp only [chkD, Bool.and_eq_true, List.all_eq_true] at hM3
  have hpairs : ∀ p ∈ d.pend, ∃ x ∈ pre, x.i = p.i ∧ x.o = p.o ∧ pairD x e = true ∧ ∀ t v, p.g t = some v → hasR x.rs (some t) = true := fun p hp => by
    obtain ⟨x, hx1, hx2, hx3, hx4⟩ := D.pin p hp
    exact ⟨x, hx1, hx2, hx3, D.pairs x hx1 e (by rw [hcur]; simp), hx4⟩
  have hpi : ∀ p ∈ d.pend, p.i ≠ e.i := by
    intro p hp he
    obtain ⟨x, hx1, hx2, _⟩ := D.pin p hp
    have := chkD_fresh hM2 e (by simp)
    rw [← he, ← hx2, (hM1 x.i).2 ⟨x, hx1, rfl⟩] at this
    cases this
  have hdne : ∀ p ∈ d.pend, ∀ t, p.o.dst = some t → e.o.dst ≠ some t := fun p hp t ht => by
    obtain ⟨x, _, _, hx3, hx5, _⟩ := hpairs p hp
    exact pairD_dst hx5 (by rw [hx3]; exact ht)
  have honly : ∀ t u, only e.rs d.ρ t = some u → hasR e.rs (some t) = true ∧ d.ρ.get t = some u := fun t u ht => by
    unfold only at ht
    split at ht
    · rename_i h; exact ⟨h, ht⟩
    · contradiction
  refine
  { ok := D.ok, lin := D.lin, cover := D.cover, aft := D.aft, inj := D.inj
    split := by rw [D.split, hcur]; simp
    M := ⟨M ||| 2 ^ e.i, fun j => ?_, by simpa using hM3.2⟩
    pairs := fun x hx y hy => ?_
    todo := fun y hy => D.todo y (by rw [hcur]; simp only [Option.toList, List.nil_append] at hy; simp [hy])
    done := fun x hx hxi => ?_
    pin := fun p hp => ?_
    pdst := fun p hp => ?_
    one := fun p hp q hq he => ?_
    dsts := fun p hp q hq t hpt hqt => ?_
    a1 := fun p hp t ht => ?_
    a2 := fun p hp q hq hne t u hpt hqt => ?_
    pok := fun p hp => ?_
    res := fun p hp hpi' b x hb => ?_
    reg := fun t u hu hno => ?_
    rp := fun q hq hqi t u hu hno => ?_
    rdst := fun p hp q hq hp' hq' b x b' x' hb hb' he => ?_ }
  · rw [testBit_add, hM1]
    constructor
    · rintro (⟨x, hx1, hx2⟩ | hj)
      · exact ⟨x, by simp [hx1], hx2⟩
      · exact ⟨e, by simp, hj⟩
    · rintro ⟨x, hx1, hx2⟩
      rcases List.mem_append.1 hx1 with hx | hx
      · exact .inl ⟨x, hx, hx2⟩
      · rw [List.mem_singleton] at hx; subst hx; exact .inr hx2
  · simp only [Option.toList, List.nil_append] at hy
    rcases List.mem_append.1 hx with hx | hx
    · exact D.pairs x hx y (by rw [hcur]; simp [hy])
    · rw [List.mem_singleton] at hx; subst hx; exact hM3.1.2 y hy
  · rcases List.mem_append.1 hx with hx | hx
    · obtain ⟨p, hp1, hp2⟩ := D.done x hx hxi
      exact ⟨p, List.mem_cons_of_mem _ hp1, hp2⟩
    · rw [List.mem_singleton] at hx; subst hx; exact ⟨_, List.mem_cons_self, rfl⟩
  · rcases List.mem_cons.1 hp with rfl | hp
    · exact ⟨e, by simp, rfl, rfl, fun t u ht => (honly t u ht).1⟩
    · obtain ⟨x, hx1, hx2⟩ := D.pin p hp
      exact ⟨x, by simp [hx1], hx2⟩
  · rcases List.mem_cons.1 hp with rfl | hp
    · exact hok
    · exact D.pdst p hp
  · rcases List.mem_cons.1 hp with rfl | hp <;> rcases List.mem_cons.1 hq with rfl | hq
    · rfl
    · exact absurd he.symm (hpi q hq)
    · exact absurd he (hpi p hp)
    · exact D.one p hp q hq he
  · rcases List.mem_cons.1 hp with rfl | hp <;> rcases List.mem_cons.1 hq with rfl | hq
    · rfl
    · exact absurd hpt (hdne q hq t hqt)
    · exact absurd hqt (hdne p hp t hpt)
    · exact D.dsts p hp q hq t hpt hqt
  · show (Ex.reg d.ρ e.o.dst v).get t = _
    rw [reg_get hok]
    rcases List.mem_cons.1 hp with rfl | hp
    · rw [if_pos ht]
    · rw [if_neg (hdne p hp t ht)]; exact D.a1 p hp t ht
  · rcases List.mem_cons.1 hp with rfl | hp <;> rcases List.mem_cons.1 hq with rfl | hq
    · exact absurd rfl hne
    · obtain ⟨x, hx1, hx2, hx3, hx5, hx6⟩ := hpairs q hq
      refine .inr ?_
      have := pairD_rs hx5 (.inr (by rw [hpt]; exact hx6 t u hqt))
      rw [hx2] at this
      exact this
    · obtain ⟨x, hx1, hx2, hx3, hx5, hx6⟩ := hpairs p hp
      obtain ⟨h1, h2⟩ := honly t u hqt
      refine .inl ⟨?_, ?_⟩
      · have := pairD_rs hx5 (.inl (by rw [hx3, hpt]; exact h1))
        rw [hx2] at this
        exact this
      · have := D.a1 p hp t hpt
        rw [h2] at this
        injection this
    · exact D.a2 p hp q hq hne t u hpt hqt
  · rcases List.mem_cons.1 hp with rfl | hp
    · exact hpok
    · exact D.pok p hp
  · rcases List.mem_cons.1 hp with rfl | hp
    · obtain ⟨h1, h2, h3, h4⟩ := hal b x hb
      exact ⟨h1, h3, h4⟩
    · obtain ⟨h1, h2, h3⟩ := D.res p hp hpi' b x hb
      exact ⟨h1, Nat.lt_of_lt_of_le h2 hh, h3⟩
  · have hu' : (Ex.reg d.ρ e.o.dst v).get t = some u := hu
    have het : e.o.dst ≠ some t := hno _ List.mem_cons_self (D.todo e (by rw [hcur]; simp))
    rw [reg_get hok, if_neg het] at hu'
    exact D.reg t u hu' fun p hp => hno p (List.mem_cons_of_mem _ hp)
  · rcases List.mem_cons.1 hq with rfl | hq
    · obtain ⟨h1, h2⟩ := honly t u hu
      refine D.reg t u h2 fun p hp hpi' hpt => ?_
      obtain ⟨x, hx1, hx2, hx3, hx5, hx6⟩ := hpairs p hp
      have := pairD_rs hx5 (.inl (by rw [hx3, hpt]; exact h1))
      rw [hx2] at this
      exact hno p (List.mem_cons_of_mem _ hp) hpi' this hpt
    · exact D.rp q hq hqi t u hu fun p hp => hno p (List.mem_cons_of_mem _ hp)
  · rcases List.mem_cons.1 hp with rfl | hp <;> rcases List.mem_cons.1 hq with rfl | hq
    · rfl
    · obtain ⟨h1, h2, h3, h4⟩ := hal b x hb
      have := (D.res q hq hq' b' x' hb').2.1
      omega
    · obtain ⟨h1, h2, h3, h4⟩ := hal b' x' hb'
      have := (D.res p hp hp' b x hb).2.1
      omega
    · exact D.rdst p hp q hq hp' hq' b x b' x' hb hb' he
theorem Rel.keep (hr : Rel P φ dm H w) (hl : H.next < LIM) (x : ABlk) : Rel P φ dm (H.add x) w := by
  have hg : ∀ k, (H.add x).bl.get k = if k = H.next then some x else H.bl.get k := fun k => tset _ _ _ _ hl
  have hne : ∀ k, dm k → k ≠ H.next := fun k hk he => Nat.lt_irrefl _ (he ▸ hr.next k hk)
  refine ⟨fun b y hb hd => hr.blk b y (by rw [hg, if_neg (hne b hd)] at hb; exact hb) hd,
    fun b b' y y' hb hb' hd hd' => hr.inj b b' y y' (by rw [hg, if_neg (hne b hd)] at hb; exact hb) (by rw [hg, if_neg (hne b' hd')] at hb'; exact hb') hd hd',
    fun b hb => Nat.lt_succ_of_lt (hr.next b hb), hr.glob, fun b m left cur hb hd => ?_, fun b m left cur b' left' cur' hb hd hb' hd' => ?_⟩
  · rw [hg, if_neg (hne b hd)] at hb
    obtain ⟨q1, ents, q2⟩ := hr.iterAt hb hd
    exact ⟨ents, by rw [hg, if_neg (hne m q1)]; exact q2⟩
  · rw [hg, if_neg (hne b hd)] at hb
    rw [hg, if_neg (hne b' hd')] at hb'
    exact hr.uniq b m left cur b' left' cur' hb hd hb' hd'
theorem quietA_sound (hr : Rel P φ dm H w) (D : DInv P φ dm H.next lo nt d ops idx tmps F pre) (hc : d.cur = none) (hrest : d.rest = e :: rest) (hlo : lo ≤ H.next) {d' : DS} (h : quietA nt d H e rest = some (d', H')) :
    Rel P φ dm H' w ∧ DInv P φ dm H'.next lo nt d' ops idx tmps F (pre ++ [e]) ∧ d'.cur = none ∧ H.next ≤ H'.next ∧ GrowS lo φ dm H w φ dm H' w := by
  unfold quietA at h
  simp only at h
  split at h
  case isFalse => contradiction
  rename_i hok
  have same : ∀ (v : AV), PdOk ⟨e.i, e.o, only e.rs d.ρ, v, none⟩ → some ({ ρ := reg d.ρ e.o.dst v, pend := ⟨e.i, e.o, only e.rs d.ρ, v, none⟩ :: d.pend, rest, cur := none }, H) = some (d', H') →
      Rel P φ dm H' w ∧ DInv P φ dm H'.next lo nt d' ops idx tmps F (pre ++ [e]) ∧ d'.cur = none ∧ H.next ≤ H'.next ∧ GrowS lo φ dm H w φ dm H' w := by
    intro v hp h
    injection h with h
    injection h with h1 h2
    subst h1 h2
    exact ⟨hr, D.ahead hc hrest hok hp (Nat.le_refl _) (fun b x h => by cases h), rfl, Nat.le_refl _, .refl _ _ _ _ _⟩
  split at h
  · rename_i hw
    exact same _ (.inl ⟨hw, rfl⟩) h
  · rename_i hw
    split at h
    · contradiction
    · rename_i hcls
      split at h
      · rename_i v K hv
        split at h
        · rename_i x hx
          split at h
          · rename_i hlim
            injection h with h
            injection h with h1 h2
            subst h1 h2
            refine ⟨hr.keep hlim x, D.ahead hc hrest hok (al := some (H.next, x)) (v := v) (show _ ∧ _ ∧ _ from ⟨hw, hcls, K, hv, hx⟩) (Nat.le_succ _) (fun b y hb => ?_), rfl, Nat.le_succ _, ⟨fun _ h => h, fun _ _ => rfl, rfl, rfl, rfl, Nat.le_refl _, fun _ _ _ => rfl, fun i ⟨b, y, hb, hd, he⟩ => .inr ?_, Nat.le_succ _, fun _ h => .inl h⟩⟩
            · injection hb with hb
              injection hb with hb _
              subst hb
              exact ⟨fun hd => Nat.lt_irrefl _ (hr.next _ hd), rfl, Nat.lt_succ_self _, hlo⟩
            · have hb' : (T.set (some x) FUEL H.bl H.next).get b = some y := hb
              rw [tset _ _ _ _ hlim, if_neg (fun he : b = H.next => Nat.lt_irrefl _ (he ▸ hr.next b hd))] at hb'
              exact ⟨b, y, hb', hd, he⟩
          · contradiction
        · contradiction
      · contradiction
    · rename_i hn2 hn3
      split at h
      · rename_i v K hv
        refine same v (.inr ⟨hw, ?_⟩) h
        cases hir : e.o.ir with
        | p x =>
          refine .inr ⟨x, rfl, ?_⟩
          rw [hir] at hv
          simp only [onceIR] at hv
          split at hv
          · rename_i u hu; injection hv with hv; injection hv with hv _; rw [← hv]; exact hu
          · contradiction
        | _ =>
          first
            | exact .inl rfl
            | (exact absurd (by rw [hir]; rfl) hn2)
            | (exact absurd (by rw [hir]; rfl) hn3)
      · contradiction
  · contradiction
structure AtD (P : Program) (φ : Nat → Loc) (dm : Nat → Prop) (s : AS) (fr : Frame) (d : DS) (ops : Array Oper) (idx : List Nat) (k : List Item) (F pre : List DO) : Prop where
  todo : fr.todo = .inRegion ops idx :: k
  rel : FrRel P φ dm { s.fr with ρ := .E, dr := none } { fr with todo := k }
  mode : s.fr.mode = .run
  inv : DInv P φ dm s.H.next s.fr.lo s.fr.nt d ops idx fr.tmps F pre
theorem AtD.of (R : SRelX P φ dm bs s fr frs w) (hd : s.fr.dr = some d) : ∃ ops idx k F pre, AtD P φ dm s fr d ops idx k F pre ∧ match d.cur with
      | some e => ∃ l, idx = e.i :: l
      | none => True := by
  have := R.fr
  unfold FrX at this
  rw [hd] at this
  obtain ⟨ops, idx, k, F, pre, h1, h2, h3, h4, h5⟩ := this
  exact ⟨ops, idx, k, F, pre, ⟨h1, h2, h3, h4⟩, h5⟩
theorem AtD.rmode {F pre : List DO} (A : AtD P φ dm s fr d ops idx k F pre) : fr.mode = .run := by
  have : MRel φ dm s.fr.mode fr.mode := A.rel.mode
  rw [A.mode] at this
  exact this
theorem FrRel.withTmps (h : FrRel P φ dm { s.fr with ρ := .E, dr := none } { fr with todo := k }) {tmps' : Array Value} (hn : s.fr.nt ≤ tmps'.size) : FrRel P φ dm { s.fr with ρ := .E, dr := none } { fr with tmps := tmps', todo := k } :=
  ⟨h.fn, h.fun_, hn, fun t v hv => (by rw [show ({ s.fr with ρ := T.E, dr := none } : AF).ρ.get t = none from T.get_E t] at hv; cases hv), h.todo, h.ds, h.mode, h.kind, h.round, h.nd⟩
theorem simD_end (E : Ext P) (R : SRelX P φ dm bs s fr frs w) (hd : s.fr.dr = some d) (hc : d.cur = none) (hr : d.rest = []) (hok : d.pend.all (nowOk s.H) = true) :
    Sim P φ dm bs s { s with fr := { s.fr with ρ := d.ρ, dr := none } } fr frs w := by
  obtain ⟨ops, idx, k, F, pre, A, _⟩ := AtD.of R hd
  obtain ⟨φ', dm', w', tmps', idx', s1, r1, g1, D1, n1, q1⟩ := catchUp (cs := frs ++ bs) E hc (List.all_eq_true.1 hok) (Nat.le_refl _) R.hlo idx A.rmode A.todo A.inv A.rel.size R.heap
  have hi : idx' = [] := by
    rcases q1 with h | ⟨x, hx, _⟩
    · exact h
    · rw [hr] at hx; cases hx
  subst hi
  have hfr := (A.rel.withTmps n1).mono g1.dms g1.ph
  refine ⟨φ', dm', { fr with tmps := tmps', todo := k }, frs, w', s1.trans (.one (st_regionEnd (by exact A.rmode) rfl)), SRel.x ⟨⟨hfr.fn, hfr.fun_, hfr.size, fun t v hv => D1.reg t v hv (fun p hp hpi => by cases hpi), hfr.todo, hfr.ds, hfr.mode, hfr.kind, hfr.round, rfl⟩, R.hlo, ?_, r1⟩, g1⟩
  exact R.cs.mono g1.dms g1.ph g1.fresh
theorem simD_quiet (R : SRelX P φ dm bs s fr frs w) (hd : s.fr.dr = some d) (hc : d.cur = none) (hr : d.rest = e :: rest) {d' : DS} (h : quietA s.fr.nt d s.H e rest = some (d', H')) :
    Sim P φ dm bs s { s with fr := { s.fr with dr := some d' }, H := H' } fr frs w := by
  obtain ⟨ops, idx, k, F, pre, A, _⟩ := AtD.of R hd
  obtain ⟨r1, D1, c1, n1, g1⟩ := quietA_sound R.heap A.inv hc hr R.hlo h
  refine ⟨φ, dm, fr, frs, w, Steps.refl P _, ⟨?_, Nat.le_trans R.hlo n1, R.cs, r1⟩, g1⟩
  unfold FrX
  simp only
  refine ⟨ops, idx, k, F, pre ++ [e], A.todo, A.rel, A.mode, D1, ?_⟩
  rw [c1]
  trivial
theorem simD_at (E : Ext P) (R : SRelX P φ dm bs s fr frs w) (hd : s.fr.dr = some d) (hc : d.cur = none) (hok : d.pend.all (nowOk s.H) = true) (hne : d.rest ≠ []) :
    ∃ ops idx k F pre φ' dm' w' tmps' x l, AtD P φ' dm' s { fr with tmps := tmps', todo := .inRegion ops (x.i :: l) :: k } d ops (x.i :: l) k F pre ∧ x ∈ d.rest ∧ (∀ j, x.o.after.testBit j = true → ∃ z ∈ pre, z.i = j) ∧
      fr.todo = .inRegion ops idx :: k ∧ Steps P (lone fr (frs ++ bs) w) (lone { fr with tmps := tmps', todo := .inRegion ops (x.i :: l) :: k } (frs ++ bs) w') ∧ Rel P φ' dm' s.H w' ∧ GrowS s.fr.lo φ dm s.H w φ' dm' s.H w' ∧ Stk P φ' dm' s.fr.lo s.cs frs := by
  obtain ⟨ops, idx, k, F, pre, A, _⟩ := AtD.of R hd
  obtain ⟨φ', dm', w', tmps', idx', s1, r1, g1, D1, n1, q1⟩ := catchUp (cs := frs ++ bs) E hc (List.all_eq_true.1 hok) (Nat.le_refl _) R.hlo idx A.rmode A.todo A.inv A.rel.size R.heap
  have hq : ∃ x ∈ d.rest, ∃ l, idx' = x.i :: l ∧ ∀ j, x.o.after.testBit j = true → ∃ z ∈ pre, z.i = j := by
    rcases q1 with h | h
    · exfalso
      subst h
      cases hr : d.rest with
      | nil => exact hne hr
      | cons e r =>
        have := D1.todo e (by rw [hr]; simp)
        cases this
    · exact h
  obtain ⟨x, hx, l, rfl, haf⟩ := hq
  exact ⟨ops, idx, k, F, pre, φ', dm', w', tmps', x, l, ⟨rfl, (A.rel.withTmps n1).mono g1.dms g1.ph, A.mode, D1⟩, hx, haf, A.todo, s1, r1, g1, R.cs.mono g1.dms g1.ph g1.fresh⟩
theorem DInv.ready {F pre : List DO} (_D : DInv P φ dm hi lo nt d ops idx tmps F pre) {x : DO} (haf : ∀ j, x.o.after.testBit j = true → ∃ z ∈ pre, z.i = j) {M : Nat} (hM : ∀ j, M.testBit j = true ↔ ∃ e ∈ pre, e.i = j) : readyD M x = true := by
  unfold readyD
  rw [beq_iff_eq]
  apply Nat.eq_of_testBit_eq
  intro j
  rw [Nat.testBit_and]
  cases h : x.o.after.testBit j with
  | false => simp
  | true => rw [(hM j).2 (haf j h)]; rfl
theorem simD_act (E : Ext P) (hC : Table P C) (R : SRelX P φ dm bs s fr frs w) (hd : s.fr.dr = some d) (hc : d.cur = none) (hr : d.rest = e :: rest) (hcls : e.o.ir.cls = 2) (hw : wanted (only e.rs d.ρ) e.o.guard = some true) (hok : d.pend.all (nowOk s.H) = true)
    (hone : ¬ (∃ y, rest = [y] ∧ (twoStores e rest && !y.o.after.testBit e.i) = true)) (h : actA C s d e rest = some s') : Sim P φ dm bs s s' fr frs w := by
  obtain ⟨ops, idx, k, F, pre, φ1, dm1, w1, tmps1, x, l, A, hx, haf, ht, s1, r1, g1, hcs⟩ := simD_at E R hd hc hok (by rw [hr]; simp)
  obtain ⟨fr1, hfr1⟩ : ∃ fr1 : Frame, fr1 = { fr with tmps := tmps1, todo := .inRegion ops (x.i :: l) :: k } := ⟨_, rfl⟩
  rw [← hfr1] at A s1
  have D := A.inv
  obtain ⟨M, hM1, hM2⟩ := D.M
  have hcur : d.cur.toList ++ d.rest = e :: rest := by rw [hc, hr]; rfl
  rw [hcur] at hM2
  have hM3 := hM2
  simp only [chkD, Bool.and_eq_true, Bool.or_eq_true, List.all_eq_true, Bool.not_eq_true'] at hM3
  have hxe : x = e := by
    rw [hr] at hx
    rcases List.mem_cons.1 hx with h | h
    · exact h
    · exfalso
      have hrd := D.ready haf hM1
      obtain ⟨⟨⟨⟨_, _⟩, h3⟩, _⟩, _⟩ := hM3
      rcases h3 with (h3 | h3) | h3
      · rw [hcls] at h3; simp at h3
      · unfold twoStores at h3
        split at h3
        · rename_i y
          rw [List.mem_singleton] at h
          subst h
          refine hone ⟨x, rfl, ?_⟩
          have : x.o.after.testBit e.i = false := by
            cases hb : x.o.after.testBit e.i with
            | false => rfl
            | true =>
              obtain ⟨z, hz1, hz2⟩ := haf _ hb
              have := chkD_fresh hM2 e (by simp)
              rw [(hM1 e.i).2 ⟨z, hz1, hz2⟩] at this
              cases this
          rw [this]
          simpa [twoStores] using h3
        · cases h3
      · have := h3 x h
        rw [hrd] at this
        cases this
  subst hxe
  have heF : x ∈ F := by rw [D.split, hcur]; simp
  obtain ⟨op, ho1, ho2, ho3, ho4⟩ := D.ok x heF
  have hrr := D.rr (by rw [hcur]; simp) heF
  have hmode := A.rmode
  have htodo := A.todo
  have RRx : RR φ1 dm1 (only x.rs d.ρ) ⟨fr1.tmps, fr1.defers⟩ := ⟨hrr, r1.glob⟩
  have hwant : Region.wanted op (yielded ops fr1.tmps) = true := wanted_rr (φ := φ1) (by rw [← ho3]; exact hw) fun t v hv => (RRx.reg t v hv).2
  have heval : (Act.mk fr1.tmps fr1.defers).eval = fr1.eval := by funext y; cases y <;> rfl
  have R1 : SRelX P φ1 dm1 bs { s with fr := { s.fr with dr := some { d with rest, cur := some x } } } fr1 frs w1 := by
    refine ⟨?_, R.hlo, hcs, r1⟩
    unfold FrX
    simp only
    refine ⟨ops, x.i :: l, k, F, pre, htodo, A.rel, A.mode, ?_, l, rfl⟩
    have e1 : ({ d with rest, cur := some x } : DS).cur.toList ++ ({ d with rest, cur := some x } : DS).rest = d.cur.toList ++ d.rest := by rw [hcur]; rfl
    exact { ok := D.ok, lin := D.lin, cover := D.cover, aft := D.aft, inj := D.inj, split := by rw [e1]; exact D.split, M := by rw [e1]; exact D.M, pairs := by rw [e1]; exact D.pairs, todo := by rw [e1]; exact D.todo, done := D.done, pin := D.pin, pdst := D.pdst, one := D.one, dsts := D.dsts, a1 := D.a1, a2 := D.a2, pok := D.pok, res := D.res, reg := D.reg, rp := D.rp, rdst := D.rdst }
  unfold actA at h
  simp only at h
  split at h
  · rename_i hcall
    split at h
    · rename_i f args hca
      obtain ⟨c1, c2, c3, c4⟩ := callee_sound (op := op) ho4.symm hcall RRx r1 hca
      rw [heval] at c4
      obtain ⟨nx, fr', n1, n2, n3, n4⟩ := callA_facts hC R1 h c1 c2
      refine ⟨φ1, dm1, fr', fr1 :: frs, w1, s1.trans (.one (st_next hmode htodo ho1 hwant c3 (c4.trans n1) n2)), n3.x, ?_⟩
      rw [n4]
      exact g1
    · contradiction
  · rename_i hcall
    split at h
    · rename_i v H hv
      split at h
      · rename_i af hf
        injection h with h
        subst h
        have honce : x.o.ir.once = true := by
          cases hir : x.o.ir <;> first
            | rfl
            | (rw [hir] at hcall; simp [IR.isCall] at hcall; done)
            | (rw [hir] at hv; simp [onceIR] at hv; done)
        obtain ⟨φ2, dm2, w2, nx, e1, e2, e3, e4, e5⟩ := good_once E (op := op) ho4 RRx r1 honce hv
        rw [heval] at e1
        have hfx := finishX hf (R1.fr.mono e5.dms e5.ph e5.fresh) e3
        have hlo : af.lo = s.fr.lo := hfx.2
        have hnd := once_nodefer (P := P) (op := op.op) (by rw [← ho4]; exact honce)
        refine ⟨φ2, dm2, fr1.finish (conc φ2 v), frs, w2, s1.trans (.one ?_), ⟨hfx.1.hi_le e5.next, by show af.lo ≤ H.next; rw [hlo]; exact Nat.le_trans R.hlo e5.next, ?_, e4⟩, g1.trans (e5.s R.hlo) (Nat.le_refl _)⟩
        · rcases e2 with rfl | ⟨rfl, rfl⟩
          · exact st_value hmode htodo ho1 hwant (.inr hnd) e1
          · exact st_skipped hmode htodo ho1 hwant (.inr hnd) e1
        · show Stk P φ2 dm2 af.lo s.cs frs
          rw [hlo]
          exact hcs.mono e5.dms e5.ph fun b hb => (e5.fresh b hb).imp id (Nat.le_trans R.hlo)
      · contradiction
    · contradiction
end
end Ex
end Go.Proofs.YtfehlbepjmmkeaaGreatDoor
namespace Go.Proofs.YtfehlbepjmmkeaaGreatDoor
open Go.RowKit
namespace Ex
noncomputable section
variable {P : Program} {C : T PF} {φ : Nat → Loc} {dm : Nat → Prop} {bs : List Frame} {s s' : AS} {fr : Frame} {frs cs : List Frame} {w w' : World} {k : List Item} {g : Nat → Option AV} {a : Act} {H H' : AH} {v : AV}
variable {hi lo nt : Nat} {d : DS} {ops : Array Oper} {idx l : List Nat} {tmps : Array Value} {F pre : List DO} {e y : DO} {rest : List DO}
theorem DInv.hi_le (D : DInv P φ dm hi lo nt d ops idx tmps F pre) {hi' : Nat} (h : hi ≤ hi') : DInv P φ dm hi' lo nt d ops idx tmps F pre :=
  { D with res := fun p hp hi' b x hb => ⟨(D.res p hp hi' b x hb).1, Nat.lt_of_lt_of_le (D.res p hp hi' b x hb).2.1 h, (D.res p hp hi' b x hb).2.2⟩ }
theorem DInv.step1 (E : Ext P) (hm : fr.mode = .run) (ht : fr.todo = .inRegion ops (e.i :: l) :: k) (D : DInv P φ dm H.next lo nt d ops (e.i :: l) fr.tmps F pre) (hcur : d.cur = none) (hrest : d.rest = e :: rest) (hw : wanted (only e.rs d.ρ) e.o.guard = some true)
    (hv : onceIR (only e.rs d.ρ) H e.o.ir = some (v, H')) (honce : e.o.ir.once = true) (hok : regOk nt e.o.dst = true) (f : Pd → Bool) (hf : ∀ p ∈ d.pend, f p = false → e.o.after.testBit p.i = true) (hn : nt ≤ fr.tmps.size) (hr : Rel P φ dm H w) :
    ∃ φ' dm' w' tmps', step P (lone fr cs w) = .next (lone { fr with tmps := tmps', todo := .inRegion ops l :: k } cs w') ∧ Rel P φ' dm' H' w' ∧ Grow φ dm H w φ' dm' H' w' ∧
      DInv P φ' dm' H'.next lo nt { ρ := Ex.reg d.ρ e.o.dst v, pend := d.pend.filter f, rest, cur := none } ops l tmps' F (pre ++ [e]) ∧ nt ≤ tmps'.size := by
  have hc : d.cur.toList ++ d.rest = e :: rest := by rw [hcur, hrest]; rfl
  have heF : e ∈ F := by rw [D.split, hc]; simp
  obtain ⟨op, ho1, ho2, ho3, ho4⟩ := D.ok e heF
  have hrr := D.rr (by rw [hc]; simp) heF
  have RRx : RR φ dm (only e.rs d.ρ) ⟨fr.tmps, fr.defers⟩ := ⟨hrr, hr.glob⟩
  have hwant : Region.wanted op (yielded ops fr.tmps) = true := wanted_rr (φ := φ) (by rw [← ho3]; exact hw) fun t v hv => (RRx.reg t v hv).2
  have heval : (Act.mk fr.tmps fr.defers).eval = fr.eval := by funext y; cases y <;> rfl
  obtain ⟨φ2, dm2, w2, nx, e1, e2, e3, e4, e5⟩ := good_once E (op := op) ho4 RRx hr honce hv
  rw [heval] at e1
  have hnd := once_nodefer (P := P) (op := op.op) (by rw [← ho4]; exact honce)
  have ec : ({ d with rest, cur := some e } : DS).cur.toList ++ ({ d with rest, cur := some e } : DS).rest = d.cur.toList ++ d.rest := by rw [hc]; rfl
  have D0 : DInv P φ dm H.next lo nt { d with rest, cur := some e } ops (e.i :: l) fr.tmps F pre :=
    { ok := D.ok, lin := D.lin, cover := D.cover, aft := D.aft, inj := D.inj, split := by rw [ec]; exact D.split, M := by rw [ec]; exact D.M, pairs := by rw [ec]; exact D.pairs, todo := by rw [ec]; exact D.todo, done := D.done, pin := D.pin, pdst := D.pdst, one := D.one, dsts := D.dsts, a1 := D.a1, a2 := D.a2, pok := D.pok, res := D.res, reg := D.reg, rp := D.rp, rdst := D.rdst }
  have D1 := ((D0.mono e5.dms e5.ph e5.fresh).hi_le e5.next).actF rfl hok hn e3 f hf
  refine ⟨φ2, dm2, w2, putR fr.tmps e.o.dst (conc φ2 v), ?_, e4, e5, D1, by rw [putR_size]; exact hn⟩
  have hfin := fin_putR (u := conc φ2 v) ht ho1
  rw [← ho2] at hfin
  rw [← hfin]
  rcases e2 with rfl | ⟨rfl, rfl⟩
  · exact st_value hm ht ho1 hwant (.inr hnd) e1
  · exact st_skipped hm ht ho1 hwant (.inr hnd) e1
theorem DInv.swap (D : DInv P φ dm hi lo nt d ops idx tmps F pre) (hcur : d.cur = none) (hrest : d.rest = [e, y]) (he : e.o.dst = none) (hy : y.o.dst = none) (h2 : e.o.ir.isStore = true) (h3 : y.o.ir.isStore = true) (hrd : ∀ j, y.o.after.testBit j = true → ∃ z ∈ pre, z.i = j) :
    DInv P φ dm hi lo nt { d with rest := [y, e] } ops idx tmps (pre ++ [y, e]) pre := by
  obtain ⟨M, hM1, hM2⟩ := D.M
  have hc : d.cur.toList ++ d.rest = [e, y] := by rw [hcur, hrest]; rfl
  have hc' : ({ d with rest := [y, e] } : DS).cur.toList ++ ({ d with rest := [y, e] } : DS).rest = [y, e] := by show d.cur.toList ++ [y, e] = _; rw [hcur]; rfl
  have hsp := D.split
  rw [hc] at hsp
  have hF : ∀ x, x ∈ pre ++ [y, e] ↔ x ∈ F := by
    intro x
    rw [hsp]
    simp only [List.mem_append, List.mem_cons, List.not_mem_nil, or_false]
    constructor
    · rintro (h | h | h)
      · exact .inl h
      · exact .inr (.inr h)
      · exact .inr (.inl h)
    · rintro (h | h | h)
      · exact .inl h
      · exact .inr (.inr h)
      · exact .inr (.inl h)
  have hmem : ∀ x, x ∈ [y, e] → x ∈ d.cur.toList ++ d.rest := by
    intro x hx
    rw [hc]
    simp only [List.mem_cons, List.not_mem_nil, or_false] at hx ⊢
    exact hx.symm
  have hlin : Lin (pre ++ [y, e]) idx := by
    have key : ∀ idx, Lin F idx → Lin (pre ++ [y, e]) idx := by
      intro idx
      induction idx with
      | nil => intro _; trivial
      | cons i l ih => intro h; exact ⟨fun e he => h.1 e ((hF e).1 he), h.2.1, ih h.2.2⟩
    exact key idx D.lin
  rw [hc] at hM2
  have hne : y.i ≠ e.i := chkD_ne hM2 y (by simp)
  have hM3 := hM2
  simp only [chkD, Bool.and_eq_true, Bool.not_eq_true', List.all_nil, Bool.or_true, and_true] at hM3
  have hmx : ∀ x, x ∈ pre ∨ x = e ∨ x = y → x ∈ F := by rw [hsp]; simp
  refine
  { ok := fun x hx => D.ok x ((hF x).1 hx), lin := hlin, cover := fun i hi => by obtain ⟨x, h1, h2⟩ := D.cover i hi; exact ⟨x, (hF x).2 h1, h2⟩
    aft := fun x hx j hj => by obtain ⟨z, h1, h2⟩ := D.aft x ((hF x).1 hx) j hj; exact ⟨z, (hF z).2 h1, h2⟩
    inj := fun x hx z hz => D.inj x ((hF x).1 hx) z ((hF z).1 hz), split := by rw [hc'], M := ⟨M, hM1, ?_⟩
    pairs := fun x hx z hz => D.pairs x hx z (by rw [hc'] at hz; exact hmem z hz), todo := fun x hx => D.todo x (by rw [hc'] at hx; exact hmem x hx)
    done := D.done, pin := D.pin, pdst := D.pdst, one := D.one, dsts := D.dsts, a1 := D.a1, a2 := D.a2, pok := D.pok, res := D.res, reg := D.reg, rp := D.rp, rdst := D.rdst }
  rw [hc']
  have hry : readyD M y = true := D.ready hrd hM1
  have hye : M.testBit y.i = false := by
    cases hb : M.testBit y.i with
    | false => rfl
    | true =>
      have := hM3.2.2
      rw [Nat.testBit_or, hb] at this
      simp at this
  obtain ⟨⟨⟨⟨q1, q2⟩, q3⟩, q4⟩, q5⟩ := hM3
  have hre : readyD (M ||| 2 ^ y.i) e = true := by
    unfold readyD at q1 ⊢
    rw [beq_iff_eq] at q1 ⊢
    apply Nat.eq_of_testBit_eq
    intro j
    have := congrArg (fun n => n.testBit j) q1
    simp only [Nat.testBit_and] at this
    rw [Nat.testBit_and, Nat.testBit_or]
    cases hj : e.o.after.testBit j with
    | false => simp
    | true => rw [hj] at this; simp at this; rw [this]; rfl
  have hee : (M ||| 2 ^ y.i).testBit e.i = false := by
    rw [Nat.testBit_or, q2, Nat.testBit_two_pow]
    simp [hne]
  have htw : twoStores y [e] = true := by simp [twoStores, h2, h3]
  simp [chkD, hry, hye, htw, hre, hee, pairD, he, hy, hasR]
def Like (x y : Option ABlk) : Prop := x = y ∨ ∃ n t t' el f s z, x = some (.cells n t el f s z) ∧ y = some (.cells n t' el f s z) ∧ ∀ i, t.get i = t'.get i
theorem Rel.like (hr : Rel P φ dm H w) (h : ∀ k, Like (H.bl.get k) (H'.bl.get k)) (hn : H'.next = H.next) : Rel P φ dm H' w ∧ GrowS lo φ dm H w φ dm H' w := by
  have back : ∀ k x, H'.bl.get k = some x → ∃ y, H.bl.get k = some y ∧ (y = x ∨ ∃ n t t' el f s z, y = .cells n t el f s z ∧ x = .cells n t' el f s z ∧ ∀ i, t.get i = t'.get i) := by
    intro k x hx
    rcases h k with h1 | ⟨n, t, t', el, f, s, z, h1, h2, h3⟩
    · exact ⟨x, by rw [h1]; exact hx, .inl rfl⟩
    · rw [hx] at h2
      injection h2 with h2
      exact ⟨_, h1, .inr ⟨n, t, t', el, f, s, z, rfl, h2, h3⟩⟩
  have iter : ∀ k m left cur, H'.bl.get k = some (.iter m left cur) → H.bl.get k = some (.iter m left cur) := by
    intro k m left cur hk
    obtain ⟨y, h1, h2 | ⟨_, _, _, _, _, _, _, _, h3, _⟩⟩ := back k _ hk
    · rw [← h2]; exact h1
    · cases h3
  refine ⟨⟨fun k x hx hd => ?_, fun k k' x x' hx hx' hd hd' he => ?_, fun k hk => by rw [hn]; exact hr.next k hk, hr.glob, fun k m left cur hk hd => ?_, fun k m left cur k' left' cur' hk hd hk' hd' => hr.uniq k m left cur k' left' cur' (iter _ _ _ _ hk) hd (iter _ _ _ _ hk') hd'⟩,
    ⟨fun _ h => h, fun _ _ => rfl, rfl, rfl, rfl, Nat.le_refl _, fun _ _ _ => rfl, fun i ⟨k, x, hk, hd, he⟩ => .inr ?_, by rw [hn]; exact Nat.le_refl _, fun _ h => .inl h⟩⟩
  · obtain ⟨y, h1, h2 | ⟨n, t, t', el, f, s, z, rfl, rfl, h3⟩⟩ := back k _ hx
    · rw [← h2]; exact hr.blk k y h1 hd
    · obtain ⟨c, zz, q1, q2, q3, q4, q5⟩ := hr.blk k _ h1 hd
      exact ⟨c, zz, q1, q2, q3, q4, fun i v hv => q5 i v (by rw [h3]; exact hv)⟩
  · obtain ⟨y, h1, _⟩ := back k _ hx
    obtain ⟨y', h1', _⟩ := back k' _ hx'
    exact hr.inj k k' y y' h1 h1' hd hd' he
  · obtain ⟨ents, h1⟩ := hr.lent _ _ _ _ (iter _ _ _ _ hk) hd
    rcases h m with h2 | ⟨_, _, _, _, _, _, _, h2, _⟩
    · exact ⟨ents, by rw [← h2]; exact h1⟩
    · rw [h1] at h2; cases h2
  · obtain ⟨y, h1, _⟩ := back k _ hk
    exact ⟨k, y, h1, hd, he⟩
theorem storeA_at {b o : Nat} {l : List AV} (h : storeA H b o l = some H') : ∃ n t el f s z, H.bl.get b = some (.cells n t el f s z) ∧ (o + l.length ≤ n ∧ n < LIM ∧ z < 2 ∧ b < LIM ∧ l.all AV.one = true) ∧ H' = H.put b (some (.cells n (putCells l o t) el f s z)) := by
  unfold storeA at h
  split at h
  · rename_i n t el f s z hb
    split at h
    · rename_i hc
      injection h with h
      exact ⟨n, t, el, f, s, z, hb, hc, h.symm⟩
    · contradiction
  · contradiction
theorem storeA_of {b o n : Nat} {l : List AV} {t : T AV} {el : Nat} {f : Bool} {s z : Nat} (hb : H.bl.get b = some (.cells n t el f s z)) (hc : o + l.length ≤ n ∧ n < LIM ∧ z < 2 ∧ b < LIM ∧ l.all AV.one = true) :
    storeA H b o l = some (H.put b (some (.cells n (putCells l o t) el f s z))) := by
  unfold storeA
  rw [hb]
  simp only [if_pos hc]
theorem store_comm {b o b' o' : Nat} {l l' : List AV} {H1 H2 : AH} (h1 : storeA H b o l = some H1) (h2 : storeA H1 b' o' l' = some H2) (hap : b ≠ b' ∨ o + l.length ≤ o' ∨ o' + l'.length ≤ o) :
    ∃ K1 K2, storeA H b' o' l' = some K1 ∧ storeA K1 b o l = some K2 ∧ (∀ k, Like (K2.bl.get k) (H2.bl.get k)) ∧ H2.next = K2.next ∧ K1.next = H.next := by
  obtain ⟨n, t, el, f, s, z, a1, a2, rfl⟩ := storeA_at h1
  obtain ⟨n', t', el', f', s', z', b1, b2, rfl⟩ := storeA_at h2
  have g1 : ∀ k, (H.put b (some (.cells n (putCells l o t) el f s z))).bl.get k = if k = b then some (.cells n (putCells l o t) el f s z) else H.bl.get k := fun k => tset _ _ _ _ a2.2.2.2.1
  rw [g1] at b1
  by_cases hbb : b = b'
  · subst hbb
    rw [if_pos rfl] at b1
    injection b1 with b1
    injection b1 with c1 c2 c3 c4 c5 c6
    subst c1 c2 c3 c4 c5 c6
    have k1 : ∀ k, (H.put b (some (.cells n (putCells l' o' t) el f s z))).bl.get k = if k = b then some (.cells n (putCells l' o' t) el f s z) else H.bl.get k := fun k => tset _ _ _ _ a2.2.2.2.1
    refine ⟨_, _, storeA_of a1 b2, storeA_of (by rw [k1, if_pos rfl]) a2, fun k => ?_, rfl, rfl⟩
    show Like ((T.set _ FUEL (T.set _ FUEL H.bl b) b).get k) ((T.set _ FUEL (T.set _ FUEL H.bl b) b).get k)
    rw [tset _ _ _ _ a2.2.2.2.1, tset _ _ _ _ a2.2.2.2.1, tset _ _ _ _ a2.2.2.2.1, tset _ _ _ _ a2.2.2.2.1]
    by_cases hk : k = b
    · rw [if_pos hk, if_pos hk]
      refine .inr ⟨n, _, _, el, f, s, z, rfl, rfl, fun i => ?_⟩
      have hap' := hap.resolve_left (fun h => h rfl)
      rw [putCells_get _ _ _ _ (by omega), putCells_get _ _ _ _ (by omega), putCells_get _ _ _ _ (by omega), putCells_get _ _ _ _ (by omega)]
      by_cases hi : o ≤ i ∧ i < o + l.length
      · rw [if_pos hi, if_neg (by omega), if_pos hi]
      · rw [if_neg hi]
        by_cases hi' : o' ≤ i ∧ i < o' + l'.length
        · rw [if_pos hi', if_pos hi']
        · rw [if_neg hi', if_neg hi', if_neg hi]
    · rw [if_neg hk, if_neg hk, if_neg hk, if_neg hk]; exact .inl rfl
  · rw [if_neg (Ne.symm hbb)] at b1
    have k1 : ∀ k, (H.put b' (some (.cells n' (putCells l' o' t') el' f' s' z'))).bl.get k = if k = b' then some (.cells n' (putCells l' o' t') el' f' s' z') else H.bl.get k := fun k => tset _ _ _ _ b2.2.2.2.1
    refine ⟨_, _, storeA_of b1 b2, storeA_of (by rw [k1, if_neg hbb]; exact a1) a2, fun k => .inl ?_, rfl, rfl⟩
    show (T.set _ FUEL (T.set _ FUEL H.bl b') b).get k = (T.set _ FUEL (T.set _ FUEL H.bl b) b').get k
    rw [tset _ _ _ _ a2.2.2.2.1, tset _ _ _ _ b2.2.2.2.1, tset _ _ _ _ b2.2.2.2.1, tset _ _ _ _ a2.2.2.2.1]
    by_cases hk : k = b
    · rw [if_pos hk, if_neg (by rw [hk]; exact hbb), if_pos hk]
    · rw [if_neg hk, if_neg hk]
theorem simD_two (E : Ext P) (hm : fr.mode = .run) (ht : fr.todo = .inRegion ops (e.i :: l) :: k) (D : DInv P φ dm H.next lo nt d ops (e.i :: l) fr.tmps F pre) (hcur : d.cur = none) (hrest : d.rest = [e, y]) (hd1 : e.o.dst = none) (hd2 : y.o.dst = none)
    (hw1 : wanted (only e.rs d.ρ) e.o.guard = some true) (hw2 : wanted (only y.rs d.ρ) y.o.guard = some true) {H1 H2 : AH} (hv1 : onceIR (only e.rs d.ρ) H e.o.ir = some (.tup [], H1)) (hv2 : ∀ K, K.next = H1.next → K = H1 → onceIR (only y.rs d.ρ) K y.o.ir = some (.tup [], H2))
    (ho1 : e.o.ir.once = true) (ho2 : y.o.ir.once = true) (hpure : ∀ p ∈ d.pend, (p.al = none ∧ p.o.ir.cls = 0) ∨ (e.o.after.testBit p.i = true ∧ y.o.after.testBit p.i = true)) (hn : nt ≤ fr.tmps.size) (hr : Rel P φ dm H w) (hlo : lo ≤ H.next) :
    ∃ φ' dm' w' tmps' idx', Steps P (lone fr cs w) (lone { fr with tmps := tmps', todo := .inRegion ops idx' :: k } cs w') ∧ Rel P φ' dm' H2 w' ∧ GrowS lo φ dm H w φ' dm' H2 w' ∧
      DInv P φ' dm' H2.next lo nt { ρ := d.ρ, pend := d.pend.filter fun p => !e.o.after.testBit p.i && !y.o.after.testBit p.i, rest := [], cur := none } ops idx' tmps' F (pre ++ [e] ++ [y]) ∧ nt ≤ tmps'.size := by
  obtain ⟨φ1, dm1, w1, tmps1, s1, r1, g1, D1, n1⟩ := D.step1 (cs := cs) E hm ht hcur hrest hw1 hv1 ho1 (by rw [hd1]; rfl) (fun p => !e.o.after.testBit p.i) (fun p _ hp => by simpa using hp) hn hr
  rw [hd1] at D1
  have hok : ∀ p ∈ d.pend.filter fun p => !e.o.after.testBit p.i, nowOk H1 p = true := by
    intro p hp
    obtain ⟨hp1, hp2⟩ := List.mem_filter.1 hp
    rcases hpure p hp1 with ⟨h1, h2⟩ | ⟨h1, _⟩
    · unfold nowOk; rw [h1]; simp only; rw [h2]; rfl
    · rw [h1] at hp2; cases hp2
  have hlo1 : lo ≤ H1.next := Nat.le_trans hlo g1.next
  obtain ⟨φ2, dm2, w2, tmps2, idx2, s2, r2, g2, D2, n2, q2⟩ := catchUp (cs := cs) (k := k) E (d := { ρ := Ex.reg d.ρ none (.tup []), pend := d.pend.filter fun p => !e.o.after.testBit p.i, rest := [y], cur := none }) rfl hok (Nat.le_refl _) hlo1 l (fr := { fr with tmps := tmps1, todo := .inRegion ops l :: k }) hm rfl D1 n1 r1
  obtain ⟨l2, rfl⟩ : ∃ l2, idx2 = y.i :: l2 := by
    rcases q2 with h | ⟨x, hx, l2, h, _⟩
    · subst h
      have := D2.todo y (by simp)
      cases this
    · have : x = y := by simpa using hx
      subst this
      exact ⟨l2, h⟩
  obtain ⟨φ3, dm3, w3, tmps3, s3, r3, g3, D3, n3⟩ := D2.step1 (cs := cs) (k := k) E (fr := { fr with tmps := tmps2, todo := .inRegion ops (y.i :: l2) :: k }) hm rfl rfl rfl hw2 (hv2 H1 rfl rfl) ho2 (by rw [hd2]; rfl) (fun p => !y.o.after.testBit p.i) (fun p _ hp => by simpa using hp) n2 r2
  rw [hd2] at D3
  refine ⟨φ3, dm3, w3, tmps3, l2, (Steps.one s1).trans (s2.trans (.one s3)), r3, (g1.s hlo).trans (g2.trans (g3.s hlo1) (Nat.le_refl _)) (Nat.le_refl _), ?_, n3⟩
  have hfilt : (d.pend.filter fun p => !e.o.after.testBit p.i).filter (fun p => !y.o.after.testBit p.i) = d.pend.filter fun p => !e.o.after.testBit p.i && !y.o.after.testBit p.i := by
    rw [List.filter_filter]
    exact List.filter_congr fun p _ => by rw [Bool.and_comm]
  rw [hfilt] at D3
  exact D3
theorem simD_pair (E : Ext P) (R : SRelX P φ dm bs s fr frs w) (hd : s.fr.dr = some d) (hc : d.cur = none) (hr : d.rest = [e, y]) (hok : d.pend.all (nowOk s.H) = true) (htw : twoStores e [y] = true) (h : pairA s d e y = some s') : Sim P φ dm bs s s' fr frs w := by
  obtain ⟨ops, idx, k, F, pre, φ1, dm1, w1, tmps1, x, l, A, hx, haf, ht, s1, r1, g1, hcs⟩ := simD_at E R hd hc hok (by rw [hr]; simp)
  obtain ⟨fr1, hfr1⟩ : ∃ fr1 : Frame, fr1 = { fr with tmps := tmps1, todo := .inRegion ops (x.i :: l) :: k } := ⟨_, rfl⟩
  rw [← hfr1] at A s1
  have D := A.inv
  simp only [twoStores, Bool.and_eq_true] at htw
  unfold pairA at h
  simp only at h
  split at h
  · rename_i n xo vo n' xo' vo' hir hir'
    split at h
    · rename_i b o hb
      split at h
      · rename_i u hu
        split at h
        · rename_i b' o' hb'
          split at h
          · rename_i u' hu'
            split at h
            · rename_i hcond
              obtain ⟨c1, c2, c3, c4, c5, c6, c7, c8⟩ := hcond
              split at h
              · rename_i H1 hs1
                split at h
                · rename_i H2 hs2
                  injection h with h
                  subst h
                  have hpure : ∀ p ∈ d.pend, (p.al = none ∧ p.o.ir.cls = 0) ∨ (e.o.after.testBit p.i = true ∧ y.o.after.testBit p.i = true) := by
                    intro p hp
                    have := List.all_eq_true.1 c4 p hp
                    simpa [pureOr] using this
                  have ho1 : e.o.ir.once = true := by rw [hir]; rfl
                  have ho2 : y.o.ir.once = true := by rw [hir']; rfl
                  have ev : ∀ {g : Nat → Option AV} {K K' : AH} {n b o : Nat} {xo vo : Od} {u : AV}, xo.ev g = some (.ptr b o) → vo.ev g = some u → u.cells.length = n → storeA K b o u.cells = some K' → onceIR g K (.store n xo vo) = some (.tup [], K') := by
                    intro g K K' n b o xo vo u h1 h2 h3 h4
                    simp only [onceIR, h1, h2, if_pos h3, h4]
                  have fin : ∀ {φ' : Nat → Loc} {dm' : Nat → Prop} {w' : World} {tmps' : Array Value} {idx' : List Nat} {F' pre' : List DO}, Steps P (lone fr1 (frs ++ bs) w1) (lone { fr1 with tmps := tmps', todo := .inRegion ops idx' :: k } (frs ++ bs) w') → Rel P φ' dm' H2 w' → GrowS s.fr.lo φ1 dm1 s.H w1 φ' dm' H2 w' →
                      DInv P φ' dm' H2.next s.fr.lo s.fr.nt { ρ := d.ρ, pend := d.pend.filter fun p => !e.o.after.testBit p.i && !y.o.after.testBit p.i, rest := [], cur := none } ops idx' tmps' F' pre' → s.fr.nt ≤ tmps'.size →
                      Sim P φ dm bs s { s with fr := { s.fr with dr := some { ρ := d.ρ, pend := d.pend.filter fun p => !e.o.after.testBit p.i && !y.o.after.testBit p.i, rest := [], cur := none } }, H := H2 } fr frs w := by
                    intro φ' dm' w' tmps' idx' F' pre' q1 q2 q3 q4 q5
                    refine ⟨φ', dm', { fr1 with tmps := tmps', todo := .inRegion ops idx' :: k }, frs, w', s1.trans q1, ⟨?_, Nat.le_trans R.hlo q3.next, hcs.mono q3.dms q3.ph q3.fresh, q2⟩, g1.trans q3 (Nat.le_refl _)⟩
                    unfold FrX
                    simp only
                    exact ⟨ops, idx', k, F', pre', rfl, (A.rel.withTmps q5).mono q3.dms q3.ph, A.mode, q4, trivial⟩
                  rw [hr] at hx
                  simp only [List.mem_cons, List.not_mem_nil, or_false] at hx
                  rcases hx with rfl | rfl
                  · obtain ⟨φ2, dm2, w2, tmps2, idx2, q1, q2, q3, q4, q5⟩ := simD_two (cs := frs ++ bs) E A.rmode A.todo D hc hr c5 c6 c7 c8 (H1 := H1) (H2 := H2) (by rw [hir]; exact ev hb hu c1 hs1)
                      (fun K _ hK => by rw [hK, hir']; exact ev hb' hu' c2 hs2) ho1 ho2 hpure A.rel.size r1 R.hlo
                    exact fin q1 q2 q3 q4 q5
                  · obtain ⟨K1, K2, k1, k2, k3, k4, k5⟩ := store_comm hs1 hs2 (by rw [c1, c2]; exact c3)
                    have D' := D.swap hc hr c5 c6 htw.1 htw.2 haf
                    obtain ⟨φ2, dm2, w2, tmps2, idx2, q1, q2, q3, q4, q5⟩ := simD_two (cs := frs ++ bs) E A.rmode A.todo D' hc rfl c6 c5 c8 c7 (H1 := K1) (H2 := K2) (by rw [hir']; exact ev hb' hu' c2 k1)
                      (fun K _ hK => by rw [hK, hir]; exact ev hb hu c1 k2) ho2 ho1 (fun p hp => (hpure p hp).imp id fun h => ⟨h.2, h.1⟩) A.rel.size r1 R.hlo
                    obtain ⟨t1, t2⟩ := q2.like (lo := s.fr.lo) k3 k4
                    have hfilt : (d.pend.filter fun p => !x.o.after.testBit p.i && !e.o.after.testBit p.i) = d.pend.filter fun p => !e.o.after.testBit p.i && !x.o.after.testBit p.i := List.filter_congr fun p _ => by rw [Bool.and_comm]
                    rw [hfilt, ← k4] at q4
                    exact fin q1 t1 (q3.trans t2 (Nat.le_refl _)) q4 q5
                · contradiction
              · contradiction
            · contradiction
          · contradiction
        · contradiction
      · contradiction
    · contradiction
  · contradiction
theorem runD_sound (E : Ext P) (hC : Table P C) (R : SRelX P φ dm bs s fr frs w) (hd : s.fr.dr = some d) (h : runD C s d = some s') : Sim P φ dm bs s s' fr frs w := by
  unfold runD at h
  split at h
  · contradiction
  · rename_i hc
    split at h
    · rename_i hr
      split at h
      · rename_i hok
        injection h with h
        subst h
        exact simD_end E R hd hc hr hok
      · contradiction
    · rename_i e rest hr
      split at h
      · rename_i hcls
        split at h
        · rename_i hw
          split at h
          · rename_i hok
            split at h
            · rename_i y
              split at h
              · rename_i htw
                simp only [Bool.and_eq_true] at htw
                exact simD_pair E R hd hc hr hok htw.1 h
              · rename_i htw
                exact simD_act E hC R hd hc hr hcls hw hok (by rintro ⟨z, hz, h2⟩; injection hz with hz; subst hz; exact htw h2) h
            · rename_i hno
              exact simD_act E hC R hd hc hr hcls hw hok (by rintro ⟨z, hz, h2⟩; exact hno z hz) h
          · contradiction
        · split at h
          · rename_i d' K hq
            injection h with h
            subst h
            exact simD_quiet R hd hc hr hq
          · contradiction
        · contradiction
      · split at h
        · rename_i d' K hq
          injection h with h
          subst h
          exact simD_quiet R hd hc hr hq
        · contradiction
end
end Ex
end Go.Proofs.YtfehlbepjmmkeaaGreatDoor
namespace Go.Proofs.YtfehlbepjmmkeaaGreatDoor
open Go.RowKit
namespace Ex
noncomputable section
variable {P : Program} {C : T PF} {φ : Nat → Loc} {dm : Nat → Prop} {bs : List Frame} {s s' : AS} {fr : Frame} {frs cs : List Frame} {w w' : World} {k : List Item}
variable {ops : Array Oper}
inductive LinR (ops : Array Oper) : (Nat → Bool) → List Nat → Prop where
  | nil {L : Nat → Bool} (h : ∀ i, i < ops.size → L i = true) : LinR ops L []
  | cons {L : Nat → Bool} {i : Nat} {o : Oper} {l : List Nat} (hi : ops[i]? = some o) (hL : L i = false) (he : ∀ e ∈ o.after.toList, Region.binds .any e = true → L e.on = true) (t : LinR ops (fun j => j == i || L j) l) : LinR ops L (i :: l)
def todoN (n : Nat) (L : Nat → Bool) : Nat := ((List.range n).filter fun i => !L i).length
theorem filter_drop {i : Nat} {L : Nat → Bool} (hL : L i = false) : ∀ (l : List Nat), l.Nodup → i ∈ l → ((l.filter fun j => !(j == i || L j)).length + 1 = (l.filter fun j => !L j).length)
  | [], _, h => by cases h
  | x :: l, hn, h => by
    rw [List.nodup_cons] at hn
    by_cases hx : x = i
    · subst hx
      have hsame : (l.filter fun j => !(j == x || L j)) = l.filter fun j => !L j := List.filter_congr fun j hj => by
        have : j ≠ x := fun he => hn.1 (he ▸ hj)
        simp [this]
      rw [List.filter_cons_of_neg (by simp), List.filter_cons_of_pos (by simp [hL]), hsame]
      rfl
    · have hi : i ∈ l := (List.mem_cons.1 h).resolve_left (Ne.symm hx)
      have ih := filter_drop hL l hn.2 hi
      cases hLx : L x with
      | true => rw [List.filter_cons_of_neg (by simp [hLx]), List.filter_cons_of_neg (by simp [hLx])]; exact ih
      | false => rw [List.filter_cons_of_pos (by simp [hLx, hx]), List.filter_cons_of_pos (by simp [hLx]), List.length_cons, List.length_cons, ih]
theorem okEdges_spec : ∀ (l : List Oper) (j : Nat), okEdges l j = true → ∀ i o, l[i]? = some o → ∀ e ∈ o.after.toList, Region.binds .any e = true → e.on < j + i
  | [], j, _, i, o, h, _, _, _ => by simp at h
  | x :: l, j, hk, i, o, h, e, he, hb => by
    simp only [okEdges, Bool.and_eq_true, List.all_eq_true] at hk
    cases i with
    | zero =>
      simp only [List.getElem?_cons_zero, Option.some.injEq] at h
      subst h
      have := hk.1 e he
      simpa [hb] using this
    | succ i =>
      have := okEdges_spec l (j + 1) hk.2 i o (by simpa using h) e he hb
      omega
theorem go_LinR (hok : okEdges ops.toList 0 = true) : ∀ (fuel t : Nat) (listed : Array Bool), listed.size = ops.size → todoN ops.size (fun i => listed.getD i false) = fuel →
    LinR ops (fun i => listed.getD i false) (Region.linearise.go .any ops fuel t listed [])
  | 0, t, listed, hs, hf => by
    refine .nil fun i hi => ?_
    cases h : listed.getD i false with
    | true => rfl
    | false =>
      have : i ∈ (List.range ops.size).filter fun i => !listed.getD i false := List.mem_filter.2 ⟨List.mem_range.2 hi, by rw [h]; rfl⟩
      rw [List.eq_nil_of_length_eq_zero hf] at this
      cases this
  | fuel + 1, t, listed, hs, hf => by
    simp only [Region.linearise.go]
    change LinR ops _ (match (Region.ready .any ops listed)[t % (Region.ready .any ops listed).length]? with
      | some i => Region.linearise.go .any ops fuel (t / (Region.ready .any ops listed).length) (listed.setIfInBounds i true) [i]
      | none => [].reverse)
    -- something is ready: the first one that is not listed
    have hex : ∃ i, i ∈ Region.ready .any ops listed := by
      have hne : ((List.range ops.size).filter fun i => !listed.getD i false) ≠ [] := by
        intro h
        unfold todoN at hf
        rw [h] at hf
        cases hf
      obtain ⟨x, hx⟩ := List.exists_mem_of_ne_nil _ hne
      have hP : ∃ i, i < ops.size ∧ listed.getD i false = false := by
        obtain ⟨h1, h2⟩ := List.mem_filter.1 hx
        exact ⟨x, List.mem_range.1 h1, by simpa using h2⟩
      have hmin : ∀ n, (∃ i, i ≤ n ∧ i < ops.size ∧ listed.getD i false = false) → ∃ i, i < ops.size ∧ listed.getD i false = false ∧ ∀ j, j < i → listed.getD j false = true := by
        intro n
        induction n with
        | zero =>
          rintro ⟨i, h1, h2, h3⟩
          exact ⟨i, h2, h3, fun j hj => by omega⟩
        | succ n ih =>
          rintro ⟨i, h1, h2, h3⟩
          by_cases hb : ∃ j, j ≤ n ∧ j < ops.size ∧ listed.getD j false = false
          · exact ih hb
          · refine ⟨i, h2, h3, fun j hj => ?_⟩
            cases h : listed.getD j false with
            | true => rfl
            | false => exact absurd ⟨j, by omega, by omega, h⟩ hb
      obtain ⟨i0, hi0⟩ := hP
      obtain ⟨i, h1, h2, h3⟩ := hmin i0 ⟨i0, Nat.le_refl _, hi0⟩
      refine ⟨i, (mem_ready).2 ?_⟩
      have ho : ops[i]? = some ops[i] := Array.getElem?_eq_getElem h1
      have hl : listed.getD i true = false := by
        rw [Array.getD_eq_getD_getElem?] at h2 ⊢
        rw [Array.getElem?_eq_getElem (by omega)] at h2 ⊢
        exact h2
      refine ⟨hl, ops[i], ho, fun e he hb => h3 _ ?_⟩
      have := okEdges_spec _ _ hok i ops[i] (by rw [Array.getElem?_toList]; exact ho) e (Array.mem_toList_iff.2 he) hb
      omega
    have hpos : 0 < (Region.ready .any ops listed).length := by
      obtain ⟨i, hi⟩ := hex
      exact List.length_pos_of_mem hi
    have hlt := Nat.mod_lt t hpos
    rw [List.getElem?_eq_getElem hlt]
    generalize hi : (Region.ready .any ops listed)[t % (Region.ready .any ops listed).length] = i
    have himem : i ∈ Region.ready .any ops listed := by rw [← hi]; exact List.getElem_mem _
    simp only
    rw [linearise_go_acc, List.reverse_singleton, List.singleton_append]
    obtain ⟨hl, o, ho, he⟩ := mem_ready.1 himem
    have hilt : i < ops.size := (Array.getElem?_eq_some_iff.1 ho).1
    have hl' : listed.getD i false = false := by
      rw [Array.getD_eq_getD_getElem?] at hl ⊢
      rw [Array.getElem?_eq_getElem (by omega)] at hl ⊢
      exact hl
    have hfun : (fun j => (listed.setIfInBounds i true).getD j false) = fun j => j == i || listed.getD j false := by
      funext j
      by_cases hj : j = i
      · subst hj
        rw [Array.getD_eq_getD_getElem?, Array.getElem?_setIfInBounds_self_of_lt (by omega)]
        simp
      · rw [getD_set_ne _ (Ne.symm hj)]
        simp [hj]
    have ih := go_LinR hok fuel (t / (Region.ready .any ops listed).length) (listed.setIfInBounds i true) (by simp [hs]) (by
      rw [hfun]
      have := filter_drop (L := fun i => listed.getD i false) hl' (List.range ops.size) List.nodup_range (List.mem_range.2 hilt)
      unfold todoN at hf ⊢
      simp only at hf this ⊢
      omega)
    rw [hfun] at ih
    exact .cons ho hl' (fun e he' hb => he e (Array.mem_toList_iff.1 he') hb) ih
theorem LinR.spec {ops : Array Oper} {L : Nat → Bool} {l : List Nat} (h : LinR ops L l) : (∀ i ∈ l, i < ops.size ∧ L i = false) ∧ (∀ i, i < ops.size → L i = false → i ∈ l) := by
  induction h with
  | nil h => exact ⟨fun i hi => (by cases hi), fun i hi hL => by rw [h i hi] at hL; cases hL⟩
  | @cons L i o l hi hL he t ih =>
    refine ⟨fun j hj => ?_, fun j hj hLj => ?_⟩
    · rcases List.mem_cons.1 hj with rfl | hj
      · exact ⟨(Array.getElem?_eq_some_iff.1 hi).1, hL⟩
      · obtain ⟨h1, h2⟩ := ih.1 j hj
        simp only [Bool.or_eq_false_iff] at h2
        exact ⟨h1, h2.2⟩
    · by_cases hji : j = i
      · subst hji; simp
      · exact List.mem_cons_of_mem _ (ih.2 j hj (by simp [hji, hLj]))
theorem LinR.lin {F : List DO} {L : Nat → Bool} {l : List Nat} (h : LinR ops L l) (hcl : ∀ e ∈ F, ∀ o, ops[e.i]? = some o → ∀ j, e.o.after.testBit j = true → ∃ ed ∈ o.after.toList, Region.binds .any ed = true ∧ (j = ed.on ∨ ∃ x ∈ F, x.i = ed.on ∧ x.o.after.testBit j = true))
    (hd : ∀ e ∈ F, L e.i = true → ∀ j, e.o.after.testBit j = true → L j = true) : Lin F l := by
  induction h with
  | nil => trivial
  | @cons L i o l hi hL he t ih =>
    have hbits : ∀ e ∈ F, e.i = i → ∀ j, e.o.after.testBit j = true → L j = true := by
      intro e heF hei j hj
      obtain ⟨ed, h1, h2, h3⟩ := hcl e heF o (by rw [hei]; exact hi) j hj
      have hon := he ed h1 h2
      rcases h3 with rfl | ⟨x, hx1, hx2, hx3⟩
      · exact hon
      · exact hd x hx1 (by rw [hx2]; exact hon) j hx3
    have hsp := (LinR.cons hi hL he t).spec.1
    refine ⟨fun e heF hei j hj hmem => ?_, fun hmem => ?_, ih fun e heF hLe j hj => ?_⟩
    · have h1 := hbits e heF hei j hj
      rw [(hsp j hmem).2] at h1
      cases h1
    · have := (t.spec.1 i hmem).2
      simp at this
    · simp only [Bool.or_eq_true, beq_iff_eq] at hLe ⊢
      rcases hLe with h | h
      · exact .inr (hbits e heF h j hj)
      · exact .inr (hd e heF h j hj)
theorem aftL_bits (acc : List Nat) : ∀ (l : List Edge) (j : Nat), (aftL acc l).testBit j = true ↔ ∃ e ∈ l, Region.binds .any e = true ∧ (j = e.on ∨ (acc.getD e.on 0).testBit j = true)
  | [], j => by simp [aftL]
  | e :: l, j => by
    simp only [aftL]
    split
    · rename_i hb
      rw [Nat.testBit_or, Bool.or_eq_true, Nat.testBit_or, Bool.or_eq_true, aftL_bits acc l j, Nat.testBit_two_pow, decide_eq_true_iff]
      constructor
      · rintro ((h | h) | ⟨e', h1, h2⟩)
        · exact ⟨e, by simp, hb, .inl h.symm⟩
        · exact ⟨e, by simp, hb, .inr h⟩
        · exact ⟨e', by simp [h1], h2⟩
      · rintro ⟨e', h1, h2, h3⟩
        rcases List.mem_cons.1 h1 with rfl | h1
        · rcases h3 with h3 | h3
          · exact .inl (.inl h3.symm)
          · exact .inl (.inr h3)
        · exact .inr ⟨e', h1, h2, h3⟩
    · rename_i hb
      rw [aftL_bits acc l j]
      constructor
      · rintro ⟨e', h1, h2⟩; exact ⟨e', by simp [h1], h2⟩
      · rintro ⟨e', h1, h2, h3⟩
        rcases List.mem_cons.1 h1 with rfl | h1
        · exact absurd h2 hb
        · exact ⟨e', h1, h2, h3⟩
theorem afts_spec : ∀ (l : List Oper) (acc : List Nat), ∃ r, afts l acc = acc ++ r ∧ r.length = l.length ∧ ∀ i o, l[i]? = some o → r[i]? = some (aftL ((acc ++ r).take (acc.length + i)) o.after.toList)
  | [], acc => ⟨[], by simp [afts], rfl, fun i o h => by simp at h⟩
  | x :: l, acc => by
    obtain ⟨r, h1, h2, h3⟩ := afts_spec l (acc ++ [aftL acc x.after.toList])
    refine ⟨aftL acc x.after.toList :: r, by simp only [afts, h1]; simp, by simp [h2], fun i o h => ?_⟩
    cases i with
    | zero =>
      simp only [List.getElem?_cons_zero, Option.some.injEq] at h ⊢
      subst h
      simp
    | succ i =>
      have := h3 i o (by simpa using h)
      simp only [List.getElem?_cons_succ]
      rw [this]
      simp only [List.append_assoc, List.singleton_append, List.length_append, List.length_singleton]
      congr 2
      congr 1
      omega
theorem mkD_mem : ∀ (l : List Oper) (bs : List Nat) (i : Nat) (e : DO), e ∈ mkD P ops l bs i → ∃ j o b, l[j]? = some o ∧ bs[j]? = some b ∧ e.i = i + j ∧ e.o = prepO P ops b o
  | [], bs, i, e, h => by simp [mkD] at h
  | x :: l, [], i, e, h => by simp [mkD] at h
  | x :: l, b :: bs, i, e, h => by
    simp only [mkD] at h
    rcases List.mem_cons.1 h with rfl | h
    · exact ⟨0, x, b, rfl, rfl, rfl, rfl⟩
    · obtain ⟨j, o, b', h1, h2, h3, h4⟩ := mkD_mem l bs (i + 1) e h
      exact ⟨j + 1, o, b', by simpa using h1, by simpa using h2, by omega, h4⟩
theorem pickD_mem {M : Nat} {q : Bool} : ∀ {l : List DO} {e : DO} {l' : List DO}, pickD M q l = some (e, l') → ∀ x, x ∈ e :: l' → x ∈ l
  | [], e, l', h, x, hx => by simp [pickD] at h
  | y :: l, e, l', h, x, hx => by
    simp only [pickD] at h
    split at h
    · injection h with h
      injection h with h1 h2
      subst h1 h2
      exact hx
    · split at h
      · rename_i z l1 hz
        injection h with h
        injection h with h1 h2
        subst h1 h2
        have := pickD_mem hz
        simp only [List.mem_cons] at hx this ⊢
        rcases hx with h | h | h
        · exact .inr (this x (.inl h))
        · exact .inl h
        · exact .inr (this x (.inr h))
      · contradiction
theorem orderD_mem : ∀ (f M : Nat) (l : List DO), ∀ x ∈ orderD f M l, x ∈ l
  | 0, M, l, x, hx => hx
  | f + 1, M, l, x, hx => by
    simp only [orderD] at hx
    split at hx
    · rename_i e l' he
      rcases List.mem_cons.1 hx with rfl | hx
      · exact pickD_mem he _ (by simp)
      · exact pickD_mem he _ (List.mem_cons_of_mem _ (orderD_mem f _ l' x hx))
    · split at hx
      · rename_i e l' he
        rcases List.mem_cons.1 hx with rfl | hx
        · exact pickD_mem he _ (by simp)
        · exact pickD_mem he _ (List.mem_cons_of_mem _ (orderD_mem f _ l' x hx))
      · exact hx
theorem chkD_inj : ∀ {l : List DO} {M : Nat}, chkD M l = true → ∀ x ∈ l, ∀ y ∈ l, x.i = y.i → x = y
  | [], M, h, x, hx, _, _, _ => by cases hx
  | e :: l, M, h, x, hx, y, hy, he => by
    have hn := chkD_ne h
    simp only [chkD, Bool.and_eq_true] at h
    rcases List.mem_cons.1 hx with h1 | h1 <;> rcases List.mem_cons.1 hy with h2 | h2
    · rw [h1, h2]
    · rw [h1] at he; exact absurd he.symm (hn y h2)
    · rw [h2] at he; exact absurd he (hn x h1)
    · exact chkD_inj h.2 x h1 y h2 he
theorem prepDrawn_inv {F : List DO} (h : prepDrawn P ops = .drawn F) {hi lo nt t : Nat} {ρ : T AV} {tmps : Array Value} (hreg : ∀ t v, ρ.get t = some v → sc dm v ∧ tmps.getD t undef = conc φ v) :
    DInv P φ dm hi lo nt { ρ, pend := [], rest := F, cur := none } ops (Region.linearise .any ops t) tmps F [] := by
  unfold prepDrawn at h
  simp only at h
  split at h
  case isFalse => split at h <;> cases h
  rename_i hc
  injection h with h
  simp only [Bool.and_eq_true, List.all_eq_true, List.any_eq_true, beq_iff_eq, List.mem_range] at hc
  rw [h] at hc
  obtain ⟨⟨hok, hchk⟩, hall⟩ := hc
  obtain ⟨B, hB1, hB2, hB3⟩ := afts_spec ops.toList []
  simp only [List.nil_append] at hB1 hB3
  have hmem : ∀ e ∈ F, ∃ o b, ops[e.i]? = some o ∧ B[e.i]? = some b ∧ e.o = prepO P ops b o := by
    intro e he
    rw [← h] at he
    obtain ⟨j, o, b, h1, h2, h3, h4⟩ := mkD_mem _ _ _ _ (orderD_mem _ _ _ _ he)
    rw [hB1] at h2
    have : e.i = j := by omega
    subst this
    exact ⟨o, b, by simpa using h1, h2, h4⟩
  have hbit : ∀ e ∈ F, ∀ o, ops[e.i]? = some o → ∀ j, e.o.after.testBit j = true → ∃ ed ∈ o.after.toList, Region.binds .any ed = true ∧ (j = ed.on ∨ ∃ x ∈ F, x.i = ed.on ∧ x.o.after.testBit j = true) := by
    intro e he o ho j hj
    obtain ⟨o', b, h1, h2, h3⟩ := hmem e he
    rw [ho] at h1
    injection h1 with h1
    subst h1
    have hb := hB3 e.i o (by simpa using ho)
    rw [h2] at hb
    injection hb with hb
    rw [h3] at hj
    have hj' : b.testBit j = true := hj
    rw [hb, aftL_bits] at hj'
    obtain ⟨ed, q1, q2, q3⟩ := hj'
    refine ⟨ed, q1, q2, ?_⟩
    rcases q3 with q3 | q3
    · exact .inl q3
    · refine .inr ?_
      have hlt := okEdges_spec _ _ hok e.i o (by simpa using ho) ed q1 q2
      have hes : e.i < ops.size := (Array.getElem?_eq_some_iff.1 ho).1
      obtain ⟨x, hx1, hx2⟩ := hall ed.on (by omega)
      refine ⟨x, hx1, hx2, ?_⟩
      obtain ⟨ox, bx, x1, x2, x3⟩ := hmem x hx1
      rw [x3]
      show bx.testBit j = true
      rw [hx2] at x2
      have : ((List.take (([] : List Nat).length + e.i) B).getD ed.on 0) = bx := by
        rw [List.getD_eq_getElem?_getD, List.getElem?_take, if_pos (by simp at hlt ⊢; omega), x2]
        rfl
      rw [this] at q3
      exact q3
  have hlt : ∀ e ∈ F, e.i < ops.size := fun e he => by
    obtain ⟨o, b, h1, _⟩ := hmem e he
    exact (Array.getElem?_eq_some_iff.1 h1).1
  have haft : ∀ n, ∀ e ∈ F, e.i ≤ n → ∀ j, e.o.after.testBit j = true → j < ops.size := by
    intro n
    induction n with
    | zero =>
      intro e he hn j hj
      obtain ⟨o, b, h1, _⟩ := hmem e he
      obtain ⟨ed, q1, q2, q3⟩ := hbit e he o h1 j hj
      have := okEdges_spec _ _ hok e.i o (by simpa using h1) ed q1 q2
      omega
    | succ n ih =>
      intro e he hn j hj
      obtain ⟨o, b, h1, _⟩ := hmem e he
      obtain ⟨ed, q1, q2, q3⟩ := hbit e he o h1 j hj
      have := okEdges_spec _ _ hok e.i o (by simpa using h1) ed q1 q2
      rcases q3 with rfl | ⟨x, hx1, hx2, hx3⟩
      · have := hlt e he; omega
      · exact ih x hx1 (by omega) j hx3
  have hlr : LinR ops (fun i => (Array.replicate ops.size false).getD i false) (Region.linearise .any ops t) := go_LinR hok ops.size t _ (by simp) (by
    unfold todoN
    rw [List.filter_eq_self.2 fun i hi => ?_]
    · simp
    · show (!(Array.replicate ops.size false).getD i false) = true
      rw [Array.getD_eq_getD_getElem?, Array.getElem?_replicate]
      split <;> rfl)
  have hF0 : ∀ i, (Array.replicate ops.size false).getD i false = false := fun i => by
    rw [Array.getD_eq_getD_getElem?, Array.getElem?_replicate]
    split <;> rfl
  obtain ⟨sp1, sp2⟩ := hlr.spec
  exact
  { ok := fun e he => by
      obtain ⟨o, b, h1, h2, h3⟩ := hmem e he
      exact ⟨o, h1, by rw [h3]; rfl, by rw [h3]; rfl, by rw [h3]; rfl⟩
    lin := hlr.lin hbit fun e he hL => by rw [hF0] at hL; cases hL
    cover := fun i hi => hall i (sp1 i hi).1
    aft := fun e he j hj => hall j (haft e.i e he (Nat.le_refl _) j hj)
    inj := chkD_inj hchk
    split := by simp
    M := ⟨0, fun j => by simp, by simpa using hchk⟩
    pairs := fun x hx => by cases hx
    todo := fun e he => sp2 e.i (hlt e (by simpa using he)) (hF0 _)
    done := fun x hx => by cases hx
    pin := fun p hp => by cases hp
    pdst := fun p hp => by cases hp
    one := fun p hp => by cases hp
    dsts := fun p hp => by cases hp
    a1 := fun p hp => by cases hp
    a2 := fun p hp => by cases hp
    pok := fun p hp => by cases hp
    res := fun p hp => by cases hp
    reg := fun t v hv _ => hreg t v hv
    rp := fun p hp => by cases hp
    rdst := fun p hp => by cases hp }
theorem st_drawn {id : Nat} (hm : fr.mode = .run) (ht : fr.todo = .code (.region id ops true) :: k) (hf : P.follows .mixedOrders = true) : ∃ t, step P (lone fr cs w) = .next (lone { fr with todo := .inRegion ops (Region.linearise .any ops t) :: k } cs w.drew) := by
  refine ⟨w.tape w.drawn (.order fr.fn id), step_lone_go ?_⟩
  simp [stepG, stepG.exec, hm, ht, choose, Sem.run, Question.forced, Question.cut, Region.schedule, hf]
theorem sim_drawn (E : Ext P) (R : SRel P φ dm bs s fr frs w) (hm : s.fr.mode = .run) {id : Nat} {F : List DO} {l : List AI} (hk : All2 (ItemRel P φ dm) l k) (ht : fr.todo = .code (.region id ops true) :: k) (hF : prepDrawn P ops = .drawn F) :
    Sim P φ dm bs s { s with fr := { s.fr with todo := l, ρ := .E, dr := some { ρ := s.fr.ρ, pend := [], rest := F, cur := none } } } fr frs w := by
  have hmode : fr.mode = .run := by have := R.fr.mode; rw [hm] at this; exact this
  obtain ⟨t, hst⟩ := st_drawn (P := P) (cs := frs ++ bs) (w := w) hmode ht E.mix
  obtain ⟨r1, g1⟩ := R.heap.same (w' := w.drew) rfl rfl rfl rfl
  refine ⟨φ, dm, _, frs, w.drew, .one hst, ⟨?_, R.hlo, R.cs, r1⟩, g1.s R.hlo⟩
  unfold FrX
  simp only
  exact ⟨ops, _, k, F, [], rfl, ⟨R.fr.fn, R.fr.fun_, R.fr.size, fun t v hv => (by rw [T.get_E] at hv; cases hv), fun _ => hk, R.fr.ds, R.fr.mode, R.fr.kind, R.fr.round, rfl⟩, hm, prepDrawn_inv hF R.fr.reg, trivial⟩
end
end Ex
end Go.Proofs.YtfehlbepjmmkeaaGreatDoor
namespace Go.Proofs.YtfehlbepjmmkeaaGreatDoor
open Go.RowKit
namespace Ex
noncomputable section
variable {P : Program} {C : T PF} {φ : Nat → Loc} {dm : Nat → Prop} {bs : List Frame} {s s' : AS} {fr c : Frame} {frs cs : List Frame} {w w' : World}
theorem prepDrawn_cases (ops : Array Oper) : (∃ F, prepDrawn P ops = .drawn F) ∨ prepDrawn P ops = .bad ∨ prepDrawn P ops = .fork ((allLin ops ops.size (Array.replicate ops.size false)).map fun idx => idx.filterMap fun i => (ops[i]?).map (prepO P ops 0)) := by
  unfold prepDrawn
  simp only
  split
  · exact .inl ⟨_, rfl⟩
  · split
    · exact .inr (.inr rfl)
    · exact .inr (.inl rfl)
theorem SRelX.plain (R : SRelX P φ dm bs s fr frs w) (hd : s.fr.dr = none) : SRel P φ dm bs s fr frs w := ⟨R.fr.nd hd, R.hlo, R.cs, R.heap⟩
theorem sim_code (E : Ext P) (hC : Table P C) (R : SRel P φ dm bs s fr frs w) (hm : s.fr.mode = .run) {c : PC} {k : List AI} (hk : s.fr.todo = .code c :: k) (h : runN C s = some s') : Sim P φ dm bs s s' fr frs w := by
  have hmode : fr.mode = .run := by have := R.fr.mode; rw [hm] at this; exact this
  have htodo := R.fr.todo hm
  rw [hk] at htodo
  unfold runN at h
  rw [hk] at h
  simp only at h
  cases ht : fr.todo with
  | nil => rw [ht] at htodo; cases htodo
  | cons y ys =>
    rw [ht] at htodo
    cases htodo with
    | cons hy hys =>
      cases y with
      | code c' =>
        have hc : prepC P c' = c := hy
        cases c' with
        | skip => simp only [prepC] at hc; subst hc; simp only at h; injection h with h; subst h; exact R.to hys (st_skip hmode ht)
        | label l => simp only [prepC] at hc; subst hc; simp only at h; injection h with h; subst h; exact R.to hys (st_label hmode ht)
        | ret => simp only [prepC] at hc; subst hc; simp only at h; exact sim_leave R hm (jump := some .ret) (by rw [ht]; exact .ret) (by simp [prepC]) h
        | seq x z =>
          simp only [prepC] at hc
          subst hc; simp only at h; injection h with h; subst h; exact R.to (k' := .code x :: .code z :: ys) (.cons rfl (.cons rfl hys)) (st_seq hmode ht)
        | cond o x z =>
          simp only [prepC] at hc
          split at hc
          · rename_i d hd
            subst hc
            simp only at h
            split at h
            · rename_i t hv
              injection h with h
              subst h
              obtain ⟨e1, _⟩ := od_spec R.rr hd hv
              rw [eval_frame (s := s) R.fr] at e1
              refine R.to (k' := .code (if t then x else z) :: ys) (.cons ?_ hys) (st_cond hmode ht e1)
              cases t <;> rfl
            · contradiction
          · subst hc; simp at h
        | block i x => simp only [prepC] at hc; subst hc; simp only at h; injection h with h; subst h; exact R.to (k' := .code x :: .inBlock i :: ys) (.cons rfl (.cons rfl hys)) (st_block hmode ht)
        | loop x => simp only [prepC] at hc; subst hc; simp only at h; injection h with h; subst h; exact R.to (k' := .code x :: .inLoop x :: ys) (.cons rfl (.cons rfl hys)) (st_loop hmode ht)
        | exit i =>
          simp only [prepC] at hc
          subst hc
          simp only at h
          split at h
          · rename_i k' he
            injection h with h
            subst h
            obtain ⟨r', hr, hf⟩ := exitA_spec i k' hys he
            exact R.to hf (st_exit hmode ht hr)
          · rename_i he
            exact sim_leave R hm (jump := some (.exit i)) (by rw [ht]; exact .exit (exitA_none i hys he)) (by simp [prepC]) h
        | region i ops d =>
          cases d with
          | false => simp only [prepC] at hc; subst hc; simp only at h; injection h with h; subst h; exact R.to (k' := .inRegion ops (List.range ops.size) :: ys) (.cons range_all2 hys) (st_region hmode ht)
          | true =>
            simp only [prepC] at hc
            rcases prepDrawn_cases (P := P) ops with ⟨F, hF⟩ | hF | hF
            · rw [hF] at hc; subst hc; simp only at h; injection h with h; subst h; exact sim_drawn E R hm hys ht hF
            · rw [hF] at hc; subst hc; simp at h
            · rw [hF] at hc; subst hc; simp at h
        | rangeFunc f ps a b =>
          simp only [prepC] at hc
          split at hc
          · rename_i u hu
            subst hc
            simp only at h
            split at h
            · rename_i g hg
              exact sim_rangeF hC R hm ht hys hu hg h
            · contradiction
          · subst hc; simp at h
        | scope x => simp only [prepC] at hc; subst hc; simp only at h; injection h with h; subst h; exact R.to (k' := .code x :: .inScope x :: ys) (.cons rfl (.cons rfl hys)) (st_scope hmode ht)
        | goto l => simp only [prepC] at hc; subst hc; simp at h
        | refuse x => simp only [prepC] at hc; subst hc; simp at h
      | inScope x =>
        have hc : c = .region [] := hy
        subst hc
        simp only at h
        injection h with h
        subst h
        exact R.stay (by rw [ht]; exact .cons rfl hys)
      | _ => exact hy.elim
theorem runN_sound (E : Ext P) (hC : Table P C) (R : SRel P φ dm bs s fr frs w) (hm : s.fr.mode = .run) (h : runN C s = some s') : Sim P φ dm bs s s' fr frs w := by
  have hmode : fr.mode = .run := by have := R.fr.mode; rw [hm] at this; exact this
  cases hk : s.fr.todo with
  | nil =>
    have htodo := R.fr.todo hm
    rw [hk] at htodo
    have ht : fr.todo = [] := by
      cases ht : fr.todo with
      | nil => rfl
      | cons y ys => rw [ht] at htodo; cases htodo
    unfold runN at h
    rw [hk] at h
    exact sim_leave R hm (jump := none) (by rw [ht]; exact .end_) rfl h
  | cons x k =>
    cases x with
    | code c => exact sim_code E hC R hm hk h
    | inReg l =>
      cases l with
      | nil =>
        have htodo := R.fr.todo hm
        rw [hk] at htodo
        unfold runN at h
        rw [hk] at h
        simp only at h
        injection h with h
        subst h
        cases ht : fr.todo with
        | nil => rw [ht] at htodo; cases htodo
        | cons y ys =>
          rw [ht] at htodo
          cases htodo with
          | cons hy hys =>
            cases y with
            | inRegion ops idx =>
              have hy' : All2 (POk P ops) [] idx := hy
              cases hy'
              exact R.to hys (st_regionEnd hmode ht)
            | inScope x => exact R.to hys (st_inScope hmode ht)
            | _ => exact hy.elim
      | cons o l =>
        unfold runN at h
        rw [hk] at h
        simp only at h
        split at h
        · rename_i hw; exact sim_op E hC R hm hk hw h
        · rename_i hw
          split at h
          · rename_i hok
            injection h with h
            subst h
            refine sim_skip R hm hk hw ?_
            have hnd : s.fr.dr = none := R.fr.nd
            simp only [finish, finishN, hm, hnd, hk, hok, if_true]
          · contradiction
        · contradiction
    | inBlock i =>
      have htodo := R.fr.todo hm
      rw [hk] at htodo
      unfold runN at h
      rw [hk] at h
      simp only at h
      injection h with h
      subst h
      cases ht : fr.todo with
      | nil => rw [ht] at htodo; cases htodo
      | cons y ys =>
        rw [ht] at htodo
        cases htodo with
        | cons hy hys =>
          cases y with
          | inBlock j => exact R.to hys (st_inBlock hmode ht)
          | _ => exact hy.elim
    | inLoop b =>
      have htodo := R.fr.todo hm
      rw [hk] at htodo
      unfold runN at h
      rw [hk] at h
      simp only at h
      injection h with h
      subst h
      cases ht : fr.todo with
      | nil => rw [ht] at htodo; cases htodo
      | cons y ys =>
        rw [ht] at htodo
        cases htodo with
        | cons hy hys =>
          cases y with
          | inLoop j => exact R.to (k' := .code j :: .inLoop j :: ys) (.cons hy (.cons hy hys)) (st_inLoop hmode ht)
          | _ => exact hy.elim
    | inRange l => unfold runN at h; rw [hk] at h; simp at h
    | endRange l =>
      unfold runN at h
      rw [hk] at h
      simp only at h
      split at h
      · rename_i ρ nt fn ps a b st pend d hb
        split at h
        · contradiction
        · rename_i hst
          injection h with h
          subst h
          exact sim_endRange R hm hk hb hst
      · contradiction
    | beginRound =>
      unfold runN at h
      rw [hk] at h
      simp only at h
      split at h
      · rename_i l hr
        split at h
        · rename_i ρ nt fn ps a b pend d hb
          split at h
          · rename_i hlim
            injection h with h
            subst h
            exact sim_beginRound R hm hk hr hb hlim
          · contradiction
        · contradiction
      · contradiction
theorem stepA_sound (E : Ext P) (hC : Table P C) (R : SRelX P φ dm bs s fr frs w) (h : stepA C s = some s') : Sim P φ dm bs s s' fr frs w := by
  unfold stepA at h
  split at h
  · rename_i hm
    unfold runA at h
    split at h
    · rename_i d hd; exact runD_sound E hC R hd h
    · rename_i hd; exact runN_sound E hC (R.plain hd) hm h
  · rename_i hm
    have hnd : s.fr.dr = none := by
      cases hd : s.fr.dr with
      | none => rfl
      | some d =>
        obtain ⟨_, _, _, _, _, A, _⟩ := AtD.of R hd
        exact absurd A.mode hm
    replace R := R.plain hnd
    split at h
    · rename_i b ds hds
      split at h
      · rename_i hb
        split at h
        · rename_i hlim
          injection h with h
          subst h
          exact sim_mark R hm hds hb hlim
        · contradiction
      · contradiction
    · rename_i f args ds hds
      split at h
      · rename_i g first cap
        split at h
        · rename_i af he
          injection h with h
          subst h
          exact sim_deferred hC R hm hds he
        · contradiction
      · contradiction
    · rename_i hds
      split at h
      · rename_i ch hmm
        split at h
        · rename_i c cs hcs
          split at h
          · contradiction
          · rename_i hcm
            split at h
            · rename_i af ha
              injection h with h
              subst h
              exact sim_raise R hmm hds hcs (fun o ho => hcm o ho) ha
            · contradiction
        · contradiction
      · rename_i hnp
        split at h
        · rename_i pf hpf
          split at h
          · rename_i v hv
            refine sim_return hC R ?_ hds hpf hv h
            cases hmm : s.fr.mode with
            | run => exact absurd hmm hm
            | returning => rfl
            | panicking ch => exact absurd hmm (hnp ch)
          · contradiction
        · contradiction
def iter (C : T PF) : Nat → AS → Option AS
  | 0, s => some s
  | n + 1, s => match stepA C s with
    | some s' => iter C n s'
    | none => none
theorem Sim.refl (R : SRelX P φ dm bs s fr frs w) : Sim P φ dm bs s s fr frs w := ⟨φ, dm, fr, frs, w, Steps.refl P _, R, .refl _ _ _ _ _⟩
end
end Ex
end Go.Proofs.YtfehlbepjmmkeaaGreatDoor
