/-
  DERIVED. An abstract machine, and that its runs are runs of the model: part 3 of 11. No condition.
-/
import Derived.Test.YtfehlbepjmmkeaaGreatDoorXb
import Derived.Lib.UnsafeStr
import GoSem.Extern.BytealgIndexByte
import GoSem.Extern.BytealgCount
namespace Go.Proofs.YtfehlbepjmmkeaaGreatDoor
open Go.RowKit
namespace Ex
noncomputable section
variable {P : Program} {φ : Nat → Loc} {dm : Nat → Prop} {g : Nat → Option AV} {a : Act} {H H' : AH} {w : World} {v : AV}
theorem growBy_le (n : Nat) : ∀ (r c : Nat), Builtin.growBy n r c ≤ max c (n + (n + 768) / 4)
  | 0, c => by simp [Builtin.growBy]; omega
  | r + 1, c => by
    simp only [Builtin.growBy]
    split
    · omega
    · have := growBy_le n r (c + (c + 768) / 4)
      omega
theorem nextcap_le {n c : Nat} (h : c < n) : Builtin.nextslicecap n c ≤ 2 * n + 768 := by
  unfold Builtin.nextslicecap
  split
  · omega
  · split
    · omega
    · have := growBy_le n 4 c
      omega
theorem run_step {α β : Type} {s : Sem α} {k : α → Sem β} {v : α} {w w' : World} (h : s.run P w = .ok v w') : (s >>= k).run P w = (k v).run P w' := by simp [h]
theorem run_append_none {ts : Array TypeId} {ty t e d : Nat} {de : TypeDesc} {size n cap : Nat} {base : Option Addr} {x : Value} (ht0 : ts[0]? = some t) (ht : P.underlying t = some (.slice e))
    (ht1 : ts[1]? = some d) (hd : P.underlying d = some de) (hi : isIntD de = false) (hs : sizeT P e = some size)
    (hlen : (Builtin.lenOf x).run P w = .ok 0 w) (hnew : (Builtin.firstCells size 0 x).run P w = .ok #[] w) (hfit : n ≤ cap) :
    (Builtin.append_ ts ty #[.slice base n cap, x]).run P w = .ok (.slice base n cap) w := by
  unfold Builtin.append_
  simp only [ht0, ht1, List.getElem?_toArray, List.getElem?_cons_zero, List.getElem?_cons_succ]
  rw [run_step (run_underlying ht w)]
  dsimp only
  rw [run_step (sizeT_spec hs w), run_step (run_underlying hd w)]
  refine (run_step (v := false) (w' := w) ?_).trans ?_
  · cases de <;> first | rfl | simp [isIntD] at hi
  simp only [Bool.false_eq_true, if_false]
  rw [run_step hlen]
  simp only [Nat.add_zero, if_pos hfit, Bool.not_false, if_true]
  rw [run_step hnew]
  cases base <;> rfl
theorem run_append_some {ts : Array TypeId} {ty t e d : Nat} {de : TypeDesc} {size m n cap : Nat} {base : Addr} {x : Value} {new : Array Value} {w' : World} (ht0 : ts[0]? = some t) (ht : P.underlying t = some (.slice e))
    (ht1 : ts[1]? = some d) (hd : P.underlying d = some de) (hi : isIntD de = false) (hs : sizeT P e = some size)
    (hlen : (Builtin.lenOf x).run P w = .ok m w) (hnew : (Builtin.firstCells size m x).run P w = .ok new w) (hfit : n + m ≤ cap)
    (hst : (storeCells (base.add (n * size)) new.toList).run P w = .ok () w') :
    (Builtin.append_ ts ty #[.slice (some base) n cap, x]).run P w = .ok (.slice (some base) (n + m) cap) w' := by
  unfold Builtin.append_
  simp only [ht0, ht1, List.getElem?_toArray, List.getElem?_cons_zero, List.getElem?_cons_succ]
  rw [run_step (run_underlying ht w)]
  dsimp only
  rw [run_step (sizeT_spec hs w), run_step (run_underlying hd w)]
  refine (run_step (v := false) (w' := w) ?_).trans ?_
  · cases de <;> first | rfl | simp [isIntD] at hi
  simp only [Bool.false_eq_true, if_false]
  rw [run_step hlen]
  simp only [if_pos hfit, Bool.not_false, if_true]
  rw [run_step hnew, run_step hst]
  rfl
theorem run_append_grow {ts : Array TypeId} {ty t e d : Nat} {de : TypeDesc} {i : TypeInfo} {z : Value} {size m n cap : Nat} {base : Option Addr} {x : Value} {new old : Array Value} (ht0 : ts[0]? = some t) (ht : P.underlying t = some (.slice e))
    (ht1 : ts[1]? = some d) (hd : P.underlying d = some de) (hi : isIntD de = false) (hs : sizeT P e = some size) (hinfo : P.info? e = some i) (hz : i.zero = some z)
    (hlen : (Builtin.lenOf x).run P w = .ok m w) (hnew : (Builtin.firstCells size m x).run P w.drew = .ok new w.drew) (hold : (Builtin.firstCells size n (.slice base n cap)).run P w.drew = .ok old w.drew)
    (hfit : ¬ n + m ≤ cap) (hsm : n + m < 1000000) (hb : i.bytes < 1000000) :
    ∃ k, (Builtin.append_ ts ty #[.slice base n cap, x]).run P w =
      .ok (.slice (some ⟨w.heap.size, 0, none⟩) (n + m) (n + m + k)) (w.drew.alloc (.cells (old ++ new ++ Builtin.zeroCells z.cells k) e)) := by
  have h1 : ¬ (((n + m : Nat) : Int) > IntKind.i64.max) := by rw [IntKind.max_i64]; omega
  have h2 := nextcap_le (n := n + m) (c := cap) (by omega)
  have h3 : ¬ Builtin.nextslicecap (n + m) cap * i.bytes > 2 ^ 48 := by
    have : Builtin.nextslicecap (n + m) cap * i.bytes ≤ (2 * 1000000 + 768) * 1000000 := Nat.mul_le_mul (by omega) (by omega)
    omega
  obtain ⟨k, hk⟩ : ∃ k, Question.cut (.appendCap (n + m) cap e) (w.tape w.drawn (.appendCap (n + m) cap e)) = n + m + k := ⟨_, rfl⟩
  have hch : (choose (.appendCap (n + m) cap e)).run P w = .ok (n + m + k) w.drew := by
    rw [run_choose_drew, if_neg (by simp [Question.forced]), hk]
  have hti : ∀ w, (typeInfo e).run P w = .ok i w := fun w => by simp [typeInfo, hinfo]
  have hzv : ∀ w, (zeroValue e).run P w = .ok z w := fun w => by simp [zeroValue, typeInfo, hinfo, hz]
  refine ⟨k, ?_⟩
  unfold Builtin.append_
  simp only [ht0, ht1, List.getElem?_toArray, List.getElem?_cons_zero, List.getElem?_cons_succ]
  rw [run_step (run_underlying ht w)]
  dsimp only
  rw [run_step (sizeT_spec hs w), run_step (run_underlying hd w)]
  refine (run_step (v := false) (w' := w) ?_).trans ?_
  · cases de <;> first | rfl | simp [isIntD] at hi
  simp only [Bool.false_eq_true, if_false]
  rw [run_step hlen]
  simp only [if_neg hfit, Bool.not_false, if_true]
  rw [run_step (hti w)]
  simp only [h1, false_and, if_false]
  rw [run_step (hti w)]
  simp only [if_neg h3]
  rw [run_step hch, run_step (hti _), run_step (run_askRoom P _ _), run_step hold, run_step hnew, run_step (hzv _)]
  simp only [Nat.add_sub_cancel_left]
  simp [newRow]
theorem zeroCells_size (z : Array Value) (k : Nat) : (Builtin.zeroCells z k).size = k * z.size := by simp [Builtin.zeroCells]
theorem froz_zero (fz size top : Nat) : Froz fz (0, 0) size top := by
  unfold Froz
  split <;> simp
theorem Rel.grown (hr : Rel P φ dm H w) {e size k : Nat} (fz : Nat) {l : List AV} {rest : Array Value} {K : AH} (hK : ∀ b x, K.bl.get b = some x → H.bl.get b = some x)
    (hKl : ∀ b m left cur ents, K.bl.get b = some (.iter m left cur) → H.bl.get m = some (.mapL ents) → K.bl.get m = some (.mapL ents)) (hKn : K.next = H.next) (hlim : K.next < LIM) (hll : l.length < LIM) (hl : scL dm l)
    (hrest : rest.size = k * size) :
    ∃ φ' dm', φ' H.next = ⟨w.heap.size, 0, k⟩ ∧ dm' H.next ∧ Rel P φ' dm' (K.add (.cells l.length (putCells l 0 .E) e true size fz)) (w.drew.alloc (.cells ((concL φ l).toArray ++ rest) e)) ∧
      Grow φ dm H w φ' dm' (K.add (.cells l.length (putCells l 0 .E) e true size fz)) (w.drew.alloc (.cells ((concL φ l).toArray ++ rest) e)) := by
  obtain ⟨r1, g1⟩ := hr.weaken hK (Nat.le_of_eq hKn.symm) hKl
  obtain ⟨r2, g2⟩ := r1.same (w' := w.drew) rfl rfl rfl rfl
  have := r2.alloc (b := K.next) (Nat.le_refl _) (o := .cells ((concL φ l).toArray ++ rest) e) (x := .cells l.length (putCells l 0 .E) e true size fz) (l := ⟨w.heap.size, 0, k⟩) rfl
    (H' := K.add (.cells l.length (putCells l 0 .E) e true size fz)) (fun k => tset _ _ _ _ hlim) (Nat.le_succ _) (Nat.lt_succ_self _) ?_
  · rw [← hKn]
    exact ⟨_, _, if_pos rfl, .inr rfl, this.1, g1.trans (g2.trans this.2)⟩
  · refine ⟨_, (0, 0), heap_new w.drew _, froz_zero _ _ _, (fun hf => by cases hf), (fun _ => by simp [concL_length, hrest]), fun i v hv => ?_⟩
    rw [putCells_get _ _ _ _ (by omega)] at hv
    split at hv
    · rename_i hi
      refine ⟨by omega, scL_get hl hv, ?_⟩
      rw [Nat.sub_zero] at hv
      rw [Nat.zero_add, Array.getElem?_append_left (by simp [concL_length]; omega)]
      simp only [List.getElem?_toArray, concL_getElem, hv]
      rfl
    · rw [T.get_E] at hv; cases hv
theorem ok_append {ts : Array TypeId} {ty t e d : Nat} {de : TypeDesc} {size : Nat} {x y : Operand} {u q : Od} (ht0 : ts[0]? = some t) (ht : P.underlying t = some (.slice e))
    (ht1 : ts[1]? = some d) (hd : P.underlying d = some de) (hi : isIntD de = false) (hs : sizeT P e = some size) (_hsz : 0 < size) (hzl : (zeroOf P e).map List.length = some size)
    (hx : odOf x = some u) (hy : odOf y = some q) (hv : onceIR g H (.append e size (bytesT P e) u q) = some (v, H')) (R : RR φ dm g a) (hr : Rel P φ dm H w) :
    Good P φ dm H w ((do pure (Next.value (← Builtin.append_ ts ty #[a.eval x, a.eval y])) : Sem Next).run P w) v H' := by
  obtain ⟨z, hz, hzlen⟩ := Option.map_eq_some_iff.1 hzl
  obtain ⟨i, z0, hinfo, hz0, hzz⟩ := zeroOf_spec hz
  have hcz := (hzz φ dm).1
  have hz0s : z0.cells.size = size := by rw [← hcz]; simp [concL_length, hzlen]
  have hbi : bytesT P e = i.bytes := by simp [bytesT, hinfo]
  simp only [onceIR] at hv
  split at hv
  case h_2 => contradiction
  rename_i s he
  split at hv
  case h_2 => contradiction
  rename_i r he2
  obtain ⟨e1, e2⟩ := od_spec R hx he
  obtain ⟨e3, e4⟩ := od_spec R hy he2
  rw [e1, e3]
  unfold appendA at hv
  split at hv
  · contradiction
  rename_i m new hel
  obtain ⟨l1, l2, l3, l4⟩ := elemsOf_sound hr hel e4
  have hnew := l1 m (Nat.le_refl _)
  rw [List.take_of_length_le (by omega)] at hnew
  have hrd := (hr.same (w' := w.drew) rfl rfl rfl rfl).1
  have hnewd := (elemsOf_sound hrd hel e4).1 m (Nat.le_refl _)
  rw [List.take_of_length_le (by omega)] at hnewd
  have hn0 := l1 0 (Nat.zero_le _)
  simp only [Nat.zero_mul, List.take_zero, concL] at hn0
  split at hv
  · split at hv
    · rename_i hm
      subst hm
      injection hv with hv
      injection hv with h1 h2
      subst h1
      subst h2
      refine Good.still (run_v' _ ?_) (by simp [sc]) hr
      exact run_append_none ht0 ht ht1 hd hi hs l3 hn0 (Nat.le_refl 0)
    · rename_i hm
      split at hv
      · rename_i hb
        split at hv
        · rename_i b H1 hn
          injection hv with hv
          injection hv with h1 h2
          subst h1
          subst h2
          unfold newA at hn
          split at hn
          · rename_i hlim
            injection hn with hn
            injection hn with hn1 hn2
            subst hn1
            subst hn2
            obtain ⟨k, hk⟩ := run_append_grow (P := P) (w := w) (ty := ty) (base := none) (n := 0) (cap := 0) (old := #[]) ht0 ht ht1 hd hi hs hinfo hz0 l3 hnewd (by simp [Builtin.firstCells]) (by omega) (by unfold LIM at hb; omega) (by rw [← hbi]; unfold LIM at hb; omega)
            obtain ⟨φ', dm', p1, p2, p3, p4⟩ := hr.grown 0 (e := e) (size := size) (k := k) (l := new) (rest := Builtin.zeroCells z0.cells k) (K := H) (fun _ _ h => h) (fun _ _ _ _ _ _ h => h) rfl hlim.1 hlim.2 l2 (by rw [zeroCells_size, hz0s])
            refine ⟨φ', dm', _, _, run_v' _ hk, .inl ?_, p2, ?_, ?_⟩
            · simp only [conc, p1, Nat.zero_add]
              congr 3
              simp
            · simpa using p3
            · simpa using p4
          · contradiction
        · contradiction
      · contradiction
  · rename_i b o d' n c
    split at hv
    · rename_i hm
      subst hm
      split at hv
      · rename_i hnc
        injection hv with hv
        injection hv with h1 h2
        subst h1
        subst h2
        exact Good.still (run_v' _ (run_append_none ht0 ht ht1 hd hi hs l3 hn0 (Nat.le_trans hnc (Nat.le_add_right _ _)))) e2 hr
      · contradiction
    · rename_i hm
      split at hv
      · rename_i nc vals elem flex esz fz hb
        obtain ⟨cc, zz, k1, k2, k3, k4, k5⟩ := hr.blk b _ hb e2
        split at hv
        · rename_i hfit
          split at hv
          · rename_i H1 hst
            injection hv with hv
            injection hv with h1 h2
            subst h1
            subst h2
            obtain ⟨w', s1, s2, s3⟩ := storeA_sound hr hst e2 l2
            have hce : ¬ c + (φ b).ext = 0 := by omega
            refine ⟨φ, dm, w', _, run_v' _ ?_, .inl rfl, e2, s2, s3⟩
            simp only [conc]
            rw [if_neg hce]
            refine run_append_some ht0 ht ht1 hd hi hs l3 hnew (by omega) ?_
            rw [Addr.add_lit, Nat.add_assoc]
            exact s1
          · contradiction
        · rename_i hfit
          split at hv
          · rename_i hb2
            obtain ⟨q1, q2, q3, q4, q5⟩ := hb2
            split at hv
            · rename_i no old hold
              obtain ⟨o1, o2, o3, o4⟩ := elemsOf_sound hrd hold e2
              have hno : no = n := by
                simp only [elemsOf] at hold
                split at hold
                · rename_i h0; injection hold with hold; injection hold with h1 h2; omega
                · split at hold
                  · split at hold
                    · contradiction
                    · split at hold
                      · injection hold with hold; injection hold with h1 h2; exact h1.symm
                      · contradiction
                  · contradiction
              subst hno
              have holdd := o1 no (Nat.le_refl _)
              rw [List.take_of_length_le (by omega)] at holdd
              split at hv
              · split at hv
                · rename_i hcond
                  obtain ⟨c1, rfl, c2, c3, c4, c5⟩ := hcond
                  injection hv with hv
                  injection hv with h1 h2
                  subst h1
                  subst h2
                  have hsize := k4 rfl
                  by_cases hroom : no + m ≤ c + (φ b).ext
                  · -- in place
                    have hce : ¬ c + (φ b).ext = 0 := by omega
                    have m1 : (no + m) * size ≤ (c + (φ b).ext) * size := Nat.mul_le_mul_right _ hroom
                    rw [Nat.add_mul, Nat.add_mul] at m1
                    rw [c1] at hsize
                    have hnewlen : (concL φ new).length = m * size := by rw [concL_length]; exact l4
                    have hfz : ∀ j, j < (concL φ new).length → ¬ (zz.1 ≤ (φ b).base + o + no * size + 0 + j ∧ (φ b).base + o + no * size + 0 + j < zz.2) := by
                      intro j hj
                      rw [hnewlen] at hj
                      rcases c3 with h2 | h2
                      · have : fz = 0 ∨ fz = 1 := by omega
                        rcases this with rfl | rfl
                        · have hzz : zz = (0, 0) := k2
                          rw [hzz]; simp
                        · exact k2 _ (by omega)
                      · subst h2
                        have k2' : ∀ i, (φ b).base + nc ≤ i → i < cc.size → ¬ (zz.1 ≤ i ∧ i < zz.2) := by
                          unfold Froz at k2
                          split at k2
                          · intro i _ _; rw [k2]; simp
                          · intro i _ hi; exact k2 i hi
                          · exact k2
                        exact k2' _ (by omega) (by omega)
                    obtain ⟨w', c', s1, s2, s3, s4, s5, s6, s7, s8, s9⟩ := run_storeCells_own (P := P) (φ b).blk ((φ b).base + o + no * size) elem zz (concL φ new) 0 cc w k1 hfz
                      (by rw [hnewlen]; omega) (by
                        intro v hv
                        rw [concL_map] at hv
                        obtain ⟨u, hu, rfl⟩ := List.mem_map.1 hv
                        exact conc_one φ u (List.all_eq_true.1 q5 u hu))
                    have hold' : ∀ j u, old[j]? = some u → vals.get (o + j) = some u := by
                      simp only [elemsOf, hb] at hold
                      split at hold
                      · injection hold with hold; injection hold with h1 h2; subst h2; intro j u hu; simp at hu
                      · split at hold
                        · contradiction
                        · split at hold
                          · rename_i r hg; injection hold with hold; injection hold with h1 h2; subst h2; exact (getCells_get _ _ _ _ hg).2
                          · contradiction
                    have hoc : scL dm (old ++ new) := (scL_iff dm _).2 fun v hv => by
                      rcases List.mem_append.1 hv with h | h
                      · exact (scL_iff dm _).1 o2 v h
                      · exact (scL_iff dm _).1 l2 v h
                    have hlen : (old ++ new).length = no * size + m * size := by rw [List.length_append, o4, l4]
                    have hnb : H.next ≤ H.next := Nat.le_refl _
                    have hext : (c + (φ b).ext - (no + m)) * size = c * size + (φ b).ext * size - (no * size + m * size) := by rw [Nat.sub_mul, Nat.add_mul, Nat.add_mul]
                    have hmv := hr.move (w' := w') (b0 := b) (b := H.next) (x := .cells (old ++ new).length (putCells (old ++ new) 0 .E) elem true size fz)
                      (l := ⟨(φ b).blk, (φ b).base + o, c + (φ b).ext - (no + m)⟩) hb e2 hnb rfl s2 s3 s4 s5 s6
                      (H' := (H.put b none).add (.cells (old ++ new).length (putCells (old ++ new) 0 .E) elem true size fz))
                      (fun k => by
                        show (T.set _ FUEL (T.set none FUEL H.bl b) H.next).get k = _
                        rw [tset _ _ _ _ c4, tset _ _ _ _ q3]) (Nat.le_succ _) (Nat.lt_succ_self _) ?_
                    · refine ⟨_, _, w', _, run_v' _ ?_, .inl rfl, .inr rfl, hmv.1, hmv.2⟩
                      simp only [conc, if_true]
                      rw [if_neg hce]
                      have := run_append_some (P := P) (ty := ty) (base := ⟨(φ b).blk, (φ b).base + o, none⟩) (n := no) (cap := c + (φ b).ext) (w' := w') ht0 ht ht1 hd hi hs l3 hnew hroom (by
                        rw [Addr.add_lit]; exact s1)
                      rw [this]
                      congr 2
                      · simp
                      · omega
                    · refine ⟨c', zz, s7, ?_, (fun hf => by cases hf), fun _ => ?_, fun i v hv => ?_⟩
                      · rw [s8]
                        unfold Froz at k2 ⊢
                        split at k2
                        · exact k2
                        · exact k2
                        · intro i hi hi2
                          refine k2 i ?_ hi2
                          have hi3 : (φ b).base + o + (no * size + m * size) ≤ i := by rw [← hlen]; exact hi
                          have f0 : fz ≠ 0 := by assumption
                          have f1 : fz ≠ 1 := by assumption
                          have : no = c := by
                            rcases c3 with h | h
                            · omega
                            · exact h
                          subst this
                          omega
                      · rw [s8, hlen]
                        show cc.size = (φ b).base + o + _ + (c + (φ b).ext - (no + m)) * size
                        rw [hext]
                        omega
                      · rw [putCells_get _ _ _ _ (by omega)] at hv
                        split at hv
                        · rename_i hi
                          rw [Nat.sub_zero] at hv
                          refine ⟨by omega, scL_get hoc hv, ?_⟩
                          show c'[(φ b).base + o + i]? = _
                          rw [s9, hnewlen]
                          by_cases hin : i < no * size
                          · rw [if_neg (by omega)]
                            rw [List.getElem?_append_left (by omega)] at hv
                            have := (k5 (o + i) v (hold' i v hv)).2.2
                            rwa [← Nat.add_assoc] at this
                          · rw [if_pos (by omega), concL_getElem]
                            rw [List.getElem?_append_right (by omega), o4] at hv
                            rw [show (φ b).base + o + i - ((φ b).base + o + no * size + 0) = i - no * size by omega, hv]
                            rfl
                        · rw [T.get_E] at hv; cases hv
                  · -- a new block
                    obtain ⟨k, hk⟩ := run_append_grow (P := P) (w := w) (ty := ty) ht0 ht ht1 hd hi hs hinfo hz0 l3 hnewd holdd hroom (by unfold LIM at q1; omega) (by rw [← hbi]; unfold LIM at q2; omega)
                    obtain ⟨φ', dm', p1, p2, p3, p4⟩ := hr.grown fz (e := elem) (size := size) (k := k) (l := old ++ new) (rest := Builtin.zeroCells z0.cells k) (K := H.put b none)
                      (fun k x hk => by
                        have hk' : (T.set none FUEL H.bl b).get k = some x := hk
                        rw [tset _ _ _ _ q3] at hk'
                        split at hk'
                        · cases hk'
                        · exact hk') (fun b' m left cur ents _ hm => by
                        show (T.set none FUEL H.bl b).get m = _
                        rw [tset _ _ _ _ q3]
                        split
                        · rename_i he; rw [he, hb] at hm; cases hm
                        · exact hm) rfl c4 c5
                      ((scL_iff dm _).2 fun v hv => by
                        rcases List.mem_append.1 hv with h | h
                        · exact (scL_iff dm _).1 o2 v h
                        · exact (scL_iff dm _).1 l2 v h) (by rw [zeroCells_size, hz0s])
                    have hcat : (concL φ (old ++ new)).toArray = (concL φ old).toArray ++ (concL φ new).toArray := by rw [concL_append]; simp
                    rw [hcat] at p3 p4
                    refine ⟨φ', dm', _, _, run_v' _ hk, .inl ?_, p2, p3, p4⟩
                    simp only [conc, p1]
                    congr 3
                    simp
                · contradiction
              · split at hv
                · rename_i b' H1 hn
                  injection hv with hv
                  injection hv with h1 h2
                  subst h1
                  subst h2
                  obtain ⟨f1, f2, f3⟩ := k3 rfl
                  unfold newA at hn
                  split at hn
                  · rename_i hlim
                    injection hn with hn
                    injection hn with hn1 hn2
                    subst hn1
                    subst hn2
                    obtain ⟨k, hk⟩ := run_append_grow (P := P) (w := w) (ty := ty) ht0 ht ht1 hd hi hs hinfo hz0 l3 hnewd holdd (by omega) (by unfold LIM at q1; omega) (by rw [← hbi]; unfold LIM at q2; omega)
                    obtain ⟨φ', dm', p1, p2, p3, p4⟩ := hr.grown 0 (e := e) (size := size) (k := k) (l := old ++ new) (rest := Builtin.zeroCells z0.cells k) (K := H) (fun _ _ h => h) (fun _ _ _ _ _ _ h => h) rfl hlim.1 hlim.2
                      ((scL_iff dm _).2 fun v hv => by
                        rcases List.mem_append.1 hv with h | h
                        · exact (scL_iff dm _).1 o2 v h
                        · exact (scL_iff dm _).1 l2 v h) (by rw [zeroCells_size, hz0s])
                    have hcat : (concL φ (old ++ new)).toArray = (concL φ old).toArray ++ (concL φ new).toArray := by rw [concL_append]; simp
                    rw [hcat] at p3 p4
                    refine ⟨φ', dm', _, _, run_v' _ hk, .inl ?_, p2, p3, p4⟩
                    simp only [conc, p1]
                    congr 3
                    simp
                  · contradiction
                · contradiction
            · contradiction
          · contradiction
      · contradiction
  · contradiction
end
end Ex
end Go.Proofs.YtfehlbepjmmkeaaGreatDoor
namespace Go.Proofs.YtfehlbepjmmkeaaGreatDoor
open Go.RowKit
namespace Ex
noncomputable section
variable {P : Program} {φ : Nat → Loc} {dm : Nat → Prop} {g : Nat → Option AV} {a : Act} {H H' : AH} {w : World} {v : AV}
theorem run_getMap {r : Nat} {es : Array MapEntry} {c : Nat} (h : w.heap[r]? = some (.map es c)) : (getObj r).run P w = .ok (.map es c) w := by simp [getObj, Sem.run, h]
theorem run_setMap {r : Nat} {es : Array MapEntry} {c : Nat} (o : Obj) (h : w.heap[r]? = some (.map es c)) : (setObj r o).run P w = .ok () { w with heap := w.heap.setIfInBounds r o } := by simp [setObj, Sem.run, h]
theorem newMap_sound (hr : Rel P φ dm H w) {K H' : AH} {lo : Nat} (hlim : K.next < LIM) (A : AtNew dm K (K.add (.map [])) H H') (hlo : lo ≤ K.next) :
    ∃ φ' dm', (φ' K.next).blk = w.heap.size ∧ dm' K.next ∧ Rel P φ' dm' H' (w.alloc (.map #[] 0)) ∧ GrowS lo φ dm H w φ' dm' H' (w.alloc (.map #[] 0)) ∧ ∀ c, dm' c → dm c ∨ c = K.next := by
  have := hr.allocS (b := K.next) A.hb (o := .map #[] 0) (x := .map []) (l := ⟨w.heap.size, 0, 0⟩) rfl
    (H' := H') (fun k => by rw [A.get k, show (K.add (ABlk.map [])).bl.get K.next = some (.map []) from by
        show (T.set _ FUEL K.bl K.next).get K.next = _; rw [tset _ _ _ _ hlim, if_pos rfl]]) A.hn A.lt ⟨#[], 0, heap_new w _, by simp, by simp, by simp, by simp, by simp⟩ hlo
  exact ⟨_, _, by simp, .inr rfl, this.1, this.2, fun c hc => hc⟩
theorem al_makeM_none {t : TypeId} {K K' : AH} {lo : Nat} (A : AtNew dm K K' H H') (hlo : lo ≤ K.next) (hv : onceIR g K (.makeM none) = some (v, K')) (hr : Rel P φ dm H w) :
    GoodS lo K.next P φ dm H w ((do pure (Next.value (← Instr.makeMap t none)) : Sem Next).run P w) v H' := by
  simp only [onceIR] at hv
  split at hv
  · rename_i hl
    injection hv with hv
    injection hv with h1 h2
    subst h1
    subst h2
    obtain ⟨φ', dm', k1, k2, k3, k4⟩ := newMap_sound hr hl A hlo
    refine ⟨φ', dm', _, _, run_v' _ (v := .map (some w.heap.size)) (by simp [Instr.makeMap]), .inl ?_, k2, k3, k4⟩
    simp [conc, k1]
  · contradiction
theorem ok_makeM_none {t : TypeId} (hv : onceIR g H (.makeM none) = some (v, H')) (hr : Rel P φ dm H w) :
    Good P φ dm H w ((do pure (Next.value (← Instr.makeMap t none)) : Sem Next).run P w) v H' := by
  obtain ⟨x, hl, rfl⟩ := onceIR_new hv rfl
  exact (al_makeM_none (.self hr hl) (Nat.le_refl _) hv hr).good
theorem al_makeM_some {t k e : TypeId} {x : Operand} {u : Od} (ht : P.underlying t = some (.map k e)) (hx : odOf x = some u) {K K' : AH} {lo : Nat} (A : AtNew dm K K' H H') (hlo : lo ≤ K.next) (hv : onceIR g K (.makeM (some u)) = some (v, K')) (R : RR φ dm g a) (hr : Rel P φ dm H w) :
    GoodS lo K.next P φ dm H w ((do pure (Next.value (← Instr.makeMap t (some (a.eval x)))) : Sem Next).run P w) v H' := by
  simp only [onceIR] at hv
  split at hv
  · rename_i kk nn he
    split at hv
    · rename_i hl
      injection hv with hv
      injection hv with h1 h2
      subst h1
      subst h2
      obtain ⟨e1, _⟩ := od_spec R hx he
      obtain ⟨φ', dm', k1, k2, k3, k4⟩ := newMap_sound hr hl A hlo
      refine ⟨φ', dm', _, _, run_v' _ (v := .map (some w.heap.size)) (by simp [Instr.makeMap, e1, run_underlying ht, conc, asInt, asIntOf]), .inl ?_, k2, k3, k4⟩
      simp [conc, k1]
    · contradiction
  · contradiction
theorem ok_makeM_some {t k e : TypeId} {x : Operand} {u : Od} (ht : P.underlying t = some (.map k e)) (hx : odOf x = some u) (hv : onceIR g H (.makeM (some u)) = some (v, H')) (R : RR φ dm g a) (hr : Rel P φ dm H w) :
    Good P φ dm H w ((do pure (Next.value (← Instr.makeMap t (some (a.eval x)))) : Sem Next).run P w) v H' := by
  obtain ⟨x, hl, rfl⟩ := onceIR_new hv rfl
  exact (al_makeM_some ht hx (.self hr hl) (Nat.le_refl _) hv R hr).good
theorem ok_lenM {t k e : TypeId} {ts : Array TypeId} {ty : TypeId} {x : Operand} {u : Od} (ht0 : ts[0]? = some t) (ht : P.underlying t = some (.map k e)) (hx : odOf x = some u) (hv : onceIR g H (.lenM u) = some (v, H')) (R : RR φ dm g a) (hr : Rel P φ dm H w) :
    Good P φ dm H w ((do pure (Next.value (← Builtin.len_ ts ty #[a.eval x])) : Sem Next).run P w) v H' := by
  simp only [onceIR] at hv
  split at hv
  · rename_i he
    injection hv with hv
    injection hv with h1 h2
    subst h1
    subst h2
    obtain ⟨e1, _⟩ := od_spec R hx he
    exact Good.still (run_v' _ (by simp [Builtin.len_, ht0, e1, conc, run_underlying ht, goInt])) (by simp [sc]) hr
  · rename_i b he
    split at hv
    · rename_i l hl
      injection hv with hv
      injection hv with h1 h2
      subst h1
      subst h2
      obtain ⟨e1, e2⟩ := od_spec R hx he
      obtain ⟨es, cl, m1, m2, _⟩ := hr.blk b _ hl e2
      have hlen : es.size = l.length := by have := m2.length_eq; simpa using this
      refine Good.still (run_v' _ ?_) (by simp [sc]) hr
      simp [Builtin.len_, ht0, e1, conc, run_underlying ht, goInt, run_getMap m1, hlen]
    · contradiction
  · contradiction
theorem ok_cap {t e : TypeId} {ts : Array TypeId} {ty : TypeId} {x : Operand} {u : Od} (ht0 : ts[0]? = some t) (ht : P.underlying t = some (.slice e)) (hx : odOf x = some u) (hv : onceIR g H (.cap u) = some (v, H')) (R : RR φ dm g a) (hr : Rel P φ dm H w) :
    Good P φ dm H w ((do pure (Next.value (← Builtin.cap_ ts ty #[a.eval x])) : Sem Next).run P w) v H' := by
  simp only [onceIR] at hv
  split at hv
  · rename_i he
    injection hv with hv
    injection hv with h1 h2
    subst h1
    subst h2
    obtain ⟨e1, _⟩ := od_spec R hx he
    exact Good.still (run_v' _ (by simp [Builtin.cap_, ht0, e1, conc, run_underlying ht, goInt])) (by simp [sc]) hr
  · rename_i b o d n c he
    split at hv
    · rename_i q1 q2 q3 q4 q5 hb
      injection hv with hv
      injection hv with h1 h2
      subst h1
      subst h2
      obtain ⟨e1, e2⟩ := od_spec R hx he
      obtain ⟨cc, zz, _, _, k3, _⟩ := hr.blk b _ hb e2
      have hext := (k3 rfl).2.1
      exact Good.still (run_v' _ (by simp [Builtin.cap_, ht0, e1, conc, run_underlying ht, goInt, hext])) (by simp [sc]) hr
    · contradiction
  · contradiction
theorem ok_sliceA {t e : TypeId} {n s : Nat} {x : Operand} {lo hi : Option Operand} {u : Od} {l h : Option Od}
    (hx : odOf x = some u) (hl : odO lo = some l) (hh : odO hi = some h) (ht : P.underlying t = some (.array n e)) (hs : sizeT P e = some s)
    (hv : onceIR g H (.sliceA n s u l h) = some (v, H')) (R : RR φ dm g a) (hr : Rel P φ dm H w) :
    Good P φ dm H w ((do pure (Next.value (← Instr.sliceAt t (a.eval x) (lo.map a.eval) (hi.map a.eval) none)) : Sem Next).run P w) v H' := by
  simp only [onceIR] at hv
  split at hv
  · rename_i b o he
    obtain ⟨h1, h2⟩ := od_spec R hx he
    split at hv
    · rename_i hv' e1
      split at hv
      · rename_i lv e2
        split at hv
        · rename_i q1 q2 q3 q4 q5 hb
          injection hv with hv
          injection hv with h3 h4
          subst h3
          subst h4
          obtain ⟨cc, zz, _, _, k3, _⟩ := hr.blk b _ hb h2
          have hext := (k3 rfl).2.1
          refine Good.still (run_v' _ ?_) h2 hr
          have hbn := bounds_spec (P := P) R (s := false) hl hh e1 e2 (Nat.le_refl n) w
          have hlv : lv ≤ hv' := by
            rcases bnd_spec R hl e2 with ⟨_, rfl⟩ | ⟨_, _, _, _, h3⟩
            · omega
            · exact h3
          have hvl : hv' ≤ n := by
            rcases bnd_spec R hh e1 with ⟨_, rfl⟩ | ⟨_, _, _, _, h3⟩
            · omega
            · exact h3
          rw [h1]
          simp only [Instr.sliceAt, Sem.run_bind, run_underlying ht, Result.andThen_ok, conc, Instr.sureAddr, Sem.run_pure, hbn, sizeT_spec hs, hext, Nat.add_zero]
          congr 2
          · by_cases hc : n = lv
            · rw [if_pos hc, if_pos (by omega)]
            · rw [if_neg hc, if_neg (by omega), Addr.add_lit, Nat.add_assoc]
        · contradiction
      · contradiction
    · contradiction
  · contradiction
theorem ok_s2b {src dst e : TypeId} {x : Operand} {u : Od} (h1 : P.underlying src = some .string) (h2 : P.underlying dst = some (.slice e)) (h3 : P.underlying e = some (.int .u8))
    (hx : odOf x = some u) (hv : onceIR g H (.s2b e u) = some (v, H')) (R : RR φ dm g a) (hr : Rel P φ dm H w) :
    Good P φ dm H w ((do pure (Next.value (← convert src dst (a.eval x))) : Sem Next).run P w) v H' := by
  simp only [onceIR] at hv
  split at hv
  · rename_i l n he
    split at hv
    · rename_i hl
      split at hv
      · rename_i b H1 hn
        injection hv with hv
        injection hv with k1 k2
        subst k1
        subst k2
        obtain ⟨e1, _⟩ := od_spec R hx he
        unfold newA at hn
        split at hn
        · rename_i hlim
          injection hn with hn
          injection hn with hn1 hn2
          subst hn1
          subst hn2
          obtain ⟨k, hk⟩ : ∃ k, Question.cut (.appendCap l 0 e) (w.tape w.drawn (.appendCap l 0 e)) = l + k := ⟨_, rfl⟩
          have hch : (choose (.appendCap l 0 e)).run P w = .ok (l + k) w.drew := by
            rw [run_choose_drew, if_neg (by simp [Question.forced]), hk]
          have hel : ((strB l n).data.map fun b => Value.int .u8 b.toNat) = (concL φ (strVs n l)).toArray := by
            rw [concL_strVs]; simp [strB]
          have hrd := (hr.same (w' := w.drew) rfl rfl rfl rfl)
          have hsz : ((concL φ (strVs n l)).toArray ++ Array.replicate k (Value.int .u8 0)).size = l + k := by simp [concL_length, strVs_length]
          obtain ⟨W, hW⟩ : ∃ W, W = w.drew.alloc (.cells ((concL φ (strVs n l)).toArray ++ Array.replicate k (Value.int .u8 0)) e) := ⟨_, rfl⟩
          have hWh : W.heap[w.heap.size]? = some (.cells ((concL φ (strVs n l)).toArray ++ Array.replicate k (Value.int .u8 0)) e (0, 0)) := by rw [hW]; exact heap_new w.drew _
          have halloc := hrd.1.alloc (b := H.next) (Nat.le_refl _) (o := .cells ((concL φ (strVs n l)).toArray ++ Array.replicate k (Value.int .u8 0)) e) (x := .cells (strVs n l).length (putCells (strVs n l) 0 .E) e true 1 1) (l := ⟨w.heap.size, 0, k⟩) rfl
            (H' := H.add (.cells (strVs n l).length (putCells (strVs n l) 0 .E) e true 1 1)) (fun k => tset _ _ _ _ hlim.1) (Nat.le_succ _) (Nat.lt_succ_self _)
            ⟨_, (0, 0), heap_new w.drew _, froz_zero _ _ _, (fun hf => by cases hf), (fun _ => by rw [hsz, strVs_length]; simp), fun i v hv => by
              rw [putCells_get _ _ _ _ (by omega)] at hv
              split at hv
              · rename_i hi
                rw [Nat.sub_zero] at hv
                refine ⟨by omega, scL_get (scL_strVs _ _) hv, ?_⟩
                rw [Nat.zero_add, Array.getElem?_append_left (by simp [concL_length]; omega)]
                simp only [List.getElem?_toArray, concL_getElem, hv]
                rfl
              · rw [T.get_E] at hv; cases hv⟩
          rw [← hW] at halloc
          -- the mark behind the row
          obtain ⟨W', hW'⟩ : ∃ W', W' = W.freeze { block := w.heap.size, off := l + k } 1 := ⟨_, rfl⟩
          have hfz : W'.heap[w.heap.size]? = some (.cells ((concL φ (strVs n l)).toArray ++ Array.replicate k (Value.int .u8 0)) e (l + k, l + k + 1)) := by
            rw [hW']; simp [World.freeze, Array.getElem?_modify, hWh]
          have hoth : ∀ i, i ≠ w.heap.size → W'.heap[i]? = W.heap[i]? := by
            intro i hi
            rw [hW']; simp [World.freeze, Array.getElem?_modify, Ne.symm hi]
          have hturn := halloc.1.turn (w' := W') (b := H.next) (x := .cells (strVs n l).length (putCells (strVs n l) 0 .E) e true 1 1) (H' := H.add (.cells (strVs n l).length (putCells (strVs n l) 0 .E) e true 1 1))
            (by show (T.set _ FUEL H.bl H.next).get H.next = _; rw [tset _ _ _ _ hlim.1, if_pos rfl]) (.inr rfl) (by rw [hW']; simp [World.freeze]) (by rw [hW']; simp [World.freeze]) (by rw [hW']; simp [World.freeze]) (by rw [hW']; simp [World.freeze])
            (by simpa using hoth)
            (fun k => by
              show (T.set _ FUEL H.bl H.next).get k = _
              rw [tset _ _ _ _ hlim.1]
              by_cases hk : k = H.next
              · rw [if_pos hk, if_pos hk]
              · rw [if_neg hk, if_neg hk]
                show _ = (T.set _ FUEL H.bl H.next).get k
                rw [tset _ _ _ _ hlim.1, if_neg hk]) rfl ?_
          · refine ⟨_, _, W', _, run_v' _ (v := .slice (some ⟨w.heap.size, 0, none⟩) l (l + k)) ?_, .inl ?_, .inr rfl, hturn.1, hrd.2.trans (halloc.2.trans hturn.2)⟩
            · rw [e1]
              simp only [conc, convert, Sem.run_bind, run_underlying h1, run_underlying h2, run_underlying h3, Result.andThen_ok, Conv.stringToBytes, strB_size, hch, hel, newRow, Nat.add_sub_cancel_left]
              have hsh : W.shape? w.heap.size = some (e, l + k) := by simp only [World.shape?, hWh, hsz]
              have hmark : (markStringish ⟨w.heap.size, 0, none⟩).run P W = .ok () W' := by
                unfold markStringish
                rw [run_step (v := some (e, l + k)) (w' := W) (by show Result.ok (W.shape? w.heap.size) W = _; rw [hsh])]
                rw [hW']
                rfl
              have hnew : (newObj (Obj.cells ((concL φ (strVs n l)).toArray ++ Array.replicate k (Value.int IntKind.u8 0)) e)).run P w.drew = .ok w.heap.size W := by
                rw [hW]; rfl
              simp only [hnew, Result.andThen_ok, Sem.run_pure, hmark]
            · simp [conc]
          · simp only [if_true]
            refine ⟨_, _, hfz, fun i hi hc => ?_, (fun hf => by cases hf), (fun _ => by rw [hsz, strVs_length]; simp), fun i v hv => by
              rw [putCells_get _ _ _ _ (by omega)] at hv
              split at hv
              · rename_i hi
                rw [Nat.sub_zero] at hv
                refine ⟨by omega, scL_get (scL_strVs _ _) hv, ?_⟩
                rw [Nat.zero_add, Array.getElem?_append_left (by simp [concL_length]; omega)]
                simp only [List.getElem?_toArray, concL_getElem, hv]
                exact congrArg some (conc_ext halloc.2.ph v (scL_get (scL_strVs (dm := dm) _ _) hv)).symm
              · rw [T.get_E] at hv; cases hv⟩
            rw [hsz] at hi
            simp only at hc
            omega
        · contradiction
      · contradiction
    · contradiction
  · contradiction
end
end Ex
end Go.Proofs.YtfehlbepjmmkeaaGreatDoor
namespace Go.Proofs.YtfehlbepjmmkeaaGreatDoor
open Go.RowKit
namespace Ex
noncomputable section
variable {P : Program} {φ : Nat → Loc} {dm : Nat → Prop} {g : Nat → Option AV} {a : Act} {H H' : AH} {w : World} {v : AV}
theorem bytes_beq (a b : ByteArray) : (a == b) = true ↔ a = b := by
  cases a; cases b
  rename_i x y
  show (x == y) = true ↔ _
  simp
theorem sameAddr_same (b o o' : Nat) : (sameAddr ⟨b, o, none⟩ ⟨b, o', none⟩).run P w = .ok (o == o') w := by
  have e : ((⟨b, o, none⟩ : Addr) == ⟨b, o', none⟩) = (o == o') := by
    rw [Bool.eq_iff_iff]
    simp
  simp [sameAddr, e]
theorem plainP_spec (hr : Rel P φ dm H w) {b : Nat} (h : plainP H b = true) (hd : dm b) :
    ∃ c t n x, w.heap[(φ b).blk]? = some (.cells c t (0, 0)) ∧ H.bl.get b = some x ∧ c.size = n := by
  unfold plainP at h
  split at h
  · rename_i q1 q2 q3 q4 q5 hb
    obtain ⟨c, z, k1, k2, _⟩ := hr.blk b _ hb hd
    have : z = (0, 0) := k2
    subst this
    exact ⟨c, _, _, _, k1, hb, rfl⟩
  · contradiction
theorem sameAddr_other {a b : Addr} {c1 c2 : Array Value} {t1 t2 : TypeId} (hne : a.block ≠ b.block) (ha : w.heap[a.block]? = some (.cells c1 t1 (0, 0))) (hb : w.heap[b.block]? = some (.cells c2 t2 (0, 0))) :
    (sameAddr a b).run P w = .ok false w := by
  have f1 : ∀ k, (frozen ⟨a.block, k, none⟩).run P w = .ok false w := fun k => by show Result.ok (w.frozen? _) w = _; simp [World.frozen?, ha]
  have f2 : ∀ k, (frozen ⟨b.block, k, none⟩).run P w = .ok false w := fun k => by show Result.ok (w.frozen? _) w = _; simp [World.frozen?, hb]
  have g1 : (frozen a).run P w = .ok false w := by show Result.ok (w.frozen? _) w = _; simp [World.frozen?, ha]
  have g2 : (frozen b).run P w = .ok false w := by show Result.ok (w.frozen? _) w = _; simp [World.frozen?, hb]
  have s1 : (shape a.block).run P w = .ok (some (t1, c1.size)) w := by show Result.ok (w.shape? _) w = _; simp [World.shape?, ha]
  have s2 : (shape b.block).run P w = .ok (some (t2, c2.size)) w := by show Result.ok (w.shape? _) w = _; simp [World.shape?, hb]
  have s1' : w.shape? a.block = some (t1, c1.size) := by simp [World.shape?, ha]
  have s2' : w.shape? b.block = some (t2, c2.size) := by simp [World.shape?, hb]
  have v1 : (noView a).run P w = .ok () w := by simp [noView, viewAt, s1']
  have v2 : (noView b).run P w = .ok () w := by simp [noView, viewAt, s2']
  have st1 : (stringish a).run P w = .ok false w := by simp [stringish, g1, s1', f1]
  have st2 : (stringish b).run P w = .ok false w := by simp [stringish, g2, s2', f2]
  have m : (mayBeOne a b).run P w = .ok false w := by
    simp [mayBeOne, st1, st2, s2']
  unfold sameAddr
  rw [if_neg (by simpa using hne)]
  simp [g1, v1, v2, m]
theorem ptrEq_sound (hr : Rel P φ dm H w) {b o b' o' : Nat} {r : Bool} (h : ptrEq H b o b' o' = some r) (hd : dm b) (hd' : dm b') :
    (sameAddr ⟨(φ b).blk, (φ b).base + o, none⟩ ⟨(φ b').blk, (φ b').base + o', none⟩).run P w = .ok r w ∧ (r = true ↔ conc φ (.ptr b o) = conc φ (.ptr b' o')) := by
  unfold ptrEq at h
  split at h
  · rename_i hb
    subst hb
    injection h with h
    subst h
    rw [sameAddr_same]
    have e : ((φ b).base + o == (φ b).base + o') = (o == o') := by rw [Bool.eq_iff_iff]; simp
    rw [e]
    exact ⟨rfl, by simp [conc]⟩
  · rename_i hb
    split at h
    · rename_i hp
      injection h with h
      subst h
      rw [Bool.and_eq_true] at hp
      obtain ⟨c1, t1, n1, x1, k1, k2, _⟩ := plainP_spec hr hp.1 hd
      obtain ⟨c2, t2, n2, x2, k3, k4, _⟩ := plainP_spec hr hp.2 hd'
      have hne : (φ b).blk ≠ (φ b').blk := fun he => hb (hr.inj b b' x1 x2 k2 k4 hd hd' he)
      refine ⟨sameAddr_other (by simpa using hne) k1 k3, ?_⟩
      simp [conc]
    · contradiction
def KD (P : Program) (k : TypeId) : Nat → Prop
  | 0 => ∃ i, P.underlying k = some (.int i)
  | 1 => P.underlying k = some .string
  | 2 => P.underlying k = some .bool
  | 3 => ∃ e n, P.underlying k = some (.pointer e) ∧ sizeT P e = some n ∧ n ≠ 0
  | _ => False
theorem keyK_spec {t : TypeId} {kd : Nat} {e : TypeId} (h : keyK P t = some (kd, e)) : ∃ k, P.underlying t = some (.map k e) ∧ KD P k kd := by
  unfold keyK at h
  split at h
  · rename_i k e' ht
    split at h
    · rename_i i hk; injection h with h; injection h with h1 h2; subst h1 h2; exact ⟨k, ht, i, hk⟩
    · rename_i hk; injection h with h; injection h with h1 h2; subst h1 h2; exact ⟨k, ht, hk⟩
    · rename_i hk; injection h with h; injection h with h1 h2; subst h1 h2; exact ⟨k, ht, hk⟩
    · rename_i x hk
      split at h
      · rename_i n hn
        split at h
        · contradiction
        · rename_i hn0; injection h with h; injection h with h1 h2; subst h1 h2; exact ⟨k, ht, x, n, hk, hn, hn0⟩
      · contradiction
    · contradiction
  · contradiction
structure Cmp (P : Program) (w : World) (k : TypeId) (kd : Nat) (K y : Value) (b : Bool) : Prop where
  iff : b = true ↔ K = y
  now : kd < 3 → ∀ d, P.underlying k = some d → Instr.sameNow d K y = some b
  ask : kd = 3 → (Op.equal k K y).run P w = .ok b w
theorem equal_ptr {k e : TypeId} {n : Nat} (hk : P.underlying k = some (.pointer e)) (hn : sizeT P e = some n) (h0 : n ≠ 0) (p q : Addr) {r : Bool} (h : (sameAddr p q).run P w = .ok r w) :
    (Op.equal k (.pointer (some p)) (.pointer (some q))).run P w = .ok r w := by
  show (Op.equalIn (9999 + 1) k _ _).run P w = _
  rw [Op.equalIn]
  simp [run_underlying hk, sizeT_spec hn, h0, h]
theorem keyEq_sound (hr : Rel P φ dm H w) {k : TypeId} {kd : Nat} (hk : KD P k kd) {x y : AV} {b : Bool} (h : keyEq H kd x y = some b) (hx : sc dm x) (hy : sc dm y) : Cmp P w k kd (conc φ x) (conc φ y) b := by
  unfold keyEq at h
  split at h
  · rename_i i p j q
    split at h
    · rename_i hij
      subst hij
      injection h with h
      subst h
      obtain ⟨ii, hk⟩ := hk
      exact ⟨by simp [conc], fun _ d hd => by rw [hk] at hd; injection hd with hd; subst hd; simp [conc, Instr.sameNow], fun h => by cases h⟩
    · contradiction
  · rename_i l n l' n'
    injection h with h
    subst h
    have hk' : P.underlying k = some .string := hk
    refine ⟨by rw [strEq_iff]; simp [conc], fun _ d hd => ?_, fun h => by cases h⟩
    rw [hk'] at hd; injection hd with hd; subst hd
    simp only [conc, Instr.sameNow]
    congr 1
    rw [Bool.eq_iff_iff, strEq_iff, bytes_beq]
  · injection h with h
    subst h
    have hk' : P.underlying k = some .bool := hk
    exact ⟨by simp [conc], fun _ d hd => by rw [hk'] at hd; injection hd with hd; subst hd; simp [conc, Instr.sameNow], fun h => by cases h⟩
  · obtain ⟨e, n, hk1, hk2, hk3⟩ := hk
    obtain ⟨h1, h2⟩ := ptrEq_sound hr h hx hy
    exact ⟨h2, fun h => by omega, fun _ => equal_ptr hk1 hk2 hk3 _ _ h1⟩
  · contradiction
theorem findNow_run {d : TypeDesc} {K : Value} : ∀ (es : List MapEntry) (i : Nat), (∀ e ∈ es, ∃ b, Instr.sameNow d K e.key = some b ∧ (b = true ↔ K = e.key)) →
    ∃ r, Instr.findNow d K es i = some r ∧ match r with
      | some (j, u) => ∃ e, i ≤ j ∧ es[j - i]? = some e ∧ e.key = K ∧ e.val = u
      | none => ∀ e ∈ es, e.key ≠ K
  | [], i, _ => ⟨none, rfl, by simp⟩
  | e :: es, i, h => by
    obtain ⟨b, hb, hiff⟩ := h e (by simp)
    cases b with
    | true => exact ⟨some (i, e.val), by simp [Instr.findNow, hb], e, Nat.le_refl _, by simp, (hiff.1 rfl).symm, rfl⟩
    | false =>
      obtain ⟨r, hr, hm⟩ := findNow_run es (i + 1) fun e he => h e (by simp [he])
      refine ⟨r, by simp [Instr.findNow, hb, hr], ?_⟩
      cases r with
      | none =>
        intro e' he'
        rcases List.mem_cons.1 he' with rfl | he'
        · intro hk; exact Bool.noConfusion (hiff.2 hk.symm)
        · exact hm e' he'
      | some ju =>
        obtain ⟨j, u⟩ := ju
        obtain ⟨e', h1, h2, h3, h4⟩ := hm
        exact ⟨e', by omega, by rw [show j - i = (j - (i + 1)) + 1 by omega]; simpa using h2, h3, h4⟩
theorem findAsking_run {k : TypeId} {K : Value} : ∀ (es : List MapEntry) (i : Nat), (∀ e ∈ es, ∃ b, (Op.equal k K e.key).run P w = .ok b w ∧ (b = true ↔ K = e.key)) →
    ∃ r, (Instr.findAsking k K es i).run P w = .ok r w ∧ match r with
      | some (j, u) => ∃ e, i ≤ j ∧ es[j - i]? = some e ∧ e.key = K ∧ e.val = u
      | none => ∀ e ∈ es, e.key ≠ K
  | [], i, _ => ⟨none, rfl, by simp⟩
  | e :: es, i, h => by
    obtain ⟨b, hb, hiff⟩ := h e (by simp)
    cases b with
    | true => exact ⟨some (i, e.val), by simp [Instr.findAsking, hb], e, Nat.le_refl _, by simp, (hiff.1 rfl).symm, rfl⟩
    | false =>
      obtain ⟨r, hr, hm⟩ := findAsking_run es (i + 1) fun e he => h e (by simp [he])
      refine ⟨r, by simp [Instr.findAsking, hb, hr], ?_⟩
      cases r with
      | none =>
        intro e' he'
        rcases List.mem_cons.1 he' with rfl | he'
        · intro hk; exact Bool.noConfusion (hiff.2 hk.symm)
        · exact hm e' he'
      | some ju =>
        obtain ⟨j, u⟩ := ju
        obtain ⟨e', h1, h2, h3, h4⟩ := hm
        exact ⟨e', by omega, by rw [show j - i = (j - (i + 1)) + 1 by omega]; simpa using h2, h3, h4⟩
theorem findKey_run {k : TypeId} {kd : Nat} (hk : KD P k kd) {K : Value} (es : List MapEntry) (h : ∀ e ∈ es, ∃ b, Cmp P w k kd K e.key b) :
    ∃ r, (Instr.findKey k K es).run P w = .ok r w ∧ match r with
      | some (j, u) => ∃ e, es[j]? = some e ∧ e.key = K ∧ e.val = u
      | none => ∀ e ∈ es, e.key ≠ K := by
  obtain ⟨d, hd⟩ : ∃ d, P.underlying k = some d := by
    match kd, hk with
    | 0, ⟨i, h⟩ => exact ⟨_, h⟩
    | 1, h => exact ⟨_, h⟩
    | 2, h => exact ⟨_, h⟩
    | 3, ⟨e, n, h, _⟩ => exact ⟨_, h⟩
  by_cases hk3 : kd < 3
  · obtain ⟨r, hr, hm⟩ := findNow_run (d := d) (K := K) es 0 fun e he => by
      obtain ⟨b, hb⟩ := h e he
      exact ⟨b, hb.now hk3 d hd, hb.iff⟩
    refine ⟨r, by simp [Instr.findKey, run_underlying hd, hr], ?_⟩
    cases r with
    | none => exact hm
    | some ju => obtain ⟨j, u⟩ := ju; obtain ⟨e, _, h2, h3⟩ := hm; exact ⟨e, by simpa using h2, h3⟩
  · have h3 : kd = 3 := by
      match kd, hk with
      | 0, _ => omega
      | 1, _ => omega
      | 2, _ => omega
      | 3, _ => rfl
    subst h3
    obtain ⟨e, n, hk1, _, _⟩ := hk
    rw [hk1] at hd
    injection hd with hd
    subst hd
    cases es with
    | nil => exact ⟨none, by simp [Instr.findKey, run_underlying hk1, Instr.findNow], by simp⟩
    | cons e0 es =>
      obtain ⟨r, hr, hm⟩ := findAsking_run (P := P) (w := w) (k := k) (K := K) (e0 :: es) 0 fun e he => by
        obtain ⟨b, hb⟩ := h e he
        exact ⟨b, hb.ask rfl, hb.iff⟩
      refine ⟨r, ?_, ?_⟩
      · simp only [Instr.findKey, Sem.run_bind, run_underlying hk1, Result.andThen_ok, Instr.findNow, Instr.sameNow]
        exact hr
      · cases r with
        | none => exact hm
        | some ju => obtain ⟨j, u⟩ := ju; obtain ⟨e, _, h2, h3⟩ := hm; exact ⟨e, by simpa using h2, h3⟩
theorem checkKey_run {k : TypeId} {kd : Nat} (hk : KD P k kd) (em : Bool) (K : Value) : (Instr.checkKey em 10000 k K).run P w = .ok () w := by
  show (Instr.checkKey em (9999 + 1) k K).run P w = _
  rw [Instr.checkKey]
  match kd, hk with
  | 0, ⟨i, h⟩ => cases K <;> simp [run_underlying h]
  | 1, h => have h' : P.underlying k = some .string := h
            cases K <;> simp [run_underlying h']
  | 2, h => have h' : P.underlying k = some .bool := h
            cases K <;> simp [run_underlying h']
  | 3, ⟨e, n, h, _⟩ => cases K <;> simp [run_underlying h]
end
end Ex
end Go.Proofs.YtfehlbepjmmkeaaGreatDoor
namespace Go.Proofs.YtfehlbepjmmkeaaGreatDoor
open Go.RowKit
namespace Ex
noncomputable section
variable {P : Program} {φ : Nat → Loc} {dm : Nat → Prop} {g : Nat → Option AV} {a : Act} {H H' : AH} {w : World} {v : AV}
abbrev kv (e : MapEntry) : Value × Value := (e.key, e.val)
abbrev cv (φ : Nat → Loc) (p : AV × AV) : Value × Value := (conc φ p.1, conc φ p.2)
theorem findA_some {kd : Nat} {k u : AV} : ∀ {l : List (AV × AV)}, findA H kd k l = some u → ∃ m1 x m2, l = m1 ++ (x, u) :: m2 ∧ keyEq H kd k x = some true
  | [], h => by cases h
  | (x, y) :: l, h => by
    simp only [findA] at h
    split at h
    · rename_i hk; injection h with h; subst h; exact ⟨[], x, l, rfl, hk⟩
    · obtain ⟨m1, z, m2, rfl, hz⟩ := findA_some h; exact ⟨(x, y) :: m1, z, m2, rfl, hz⟩
theorem findA_none {kd : Nat} {k : AV} : ∀ {l : List (AV × AV)}, findA H kd k l = none → ∀ p ∈ l, keyEq H kd k p.1 ≠ some true
  | [], _ => by simp
  | (x, y) :: l, h => by
    simp only [findA] at h
    split at h
    · cases h
    · rename_i hk
      intro p hp
      rcases List.mem_cons.1 hp with rfl | hp
      · exact hk
      · exact findA_none h p hp
theorem updA_cases {kd : Nat} {k v : AV} : ∀ (l : List (AV × AV)), (∃ m1 x u m2, l = m1 ++ (x, u) :: m2 ∧ keyEq H kd k x = some true ∧ updA H kd k v l = m1 ++ (k, v) :: m2) ∨
    ((∀ p ∈ l, keyEq H kd k p.1 ≠ some true) ∧ updA H kd k v l = l ++ [(k, v)])
  | [] => .inr ⟨by simp, rfl⟩
  | (x, u) :: l => by
    simp only [updA]
    by_cases hk : keyEq H kd k x = some true
    · rw [if_pos hk]; exact .inl ⟨[], x, u, l, rfl, hk, rfl⟩
    · rw [if_neg hk]
      rcases updA_cases (kd := kd) (k := k) (v := v) l with ⟨m1, y, z, m2, h1, h2, h3⟩ | ⟨h1, h2⟩
      · exact .inl ⟨(x, u) :: m1, y, z, m2, by rw [h1]; rfl, h2, by rw [h3]; rfl⟩
      · refine .inr ⟨fun p hp => ?_, by rw [h2]; rfl⟩
        rcases List.mem_cons.1 hp with rfl | hp
        · exact hk
        · exact h1 p hp
theorem delA_cases {kd : Nat} {k : AV} : ∀ (l : List (AV × AV)), (∃ m1 x u m2, l = m1 ++ (x, u) :: m2 ∧ keyEq H kd k x = some true ∧ delA H kd k l = m1 ++ m2) ∨
    ((∀ p ∈ l, keyEq H kd k p.1 ≠ some true) ∧ delA H kd k l = l)
  | [] => .inr ⟨by simp, rfl⟩
  | (x, u) :: l => by
    simp only [delA]
    by_cases hk : keyEq H kd k x = some true
    · rw [if_pos hk]; exact .inl ⟨[], x, u, l, rfl, hk, rfl⟩
    · rw [if_neg hk]
      rcases delA_cases (kd := kd) (k := k) l with ⟨m1, y, z, m2, h1, h2, h3⟩ | ⟨h1, h2⟩
      · exact .inl ⟨(x, u) :: m1, y, z, m2, by rw [h1]; rfl, h2, by rw [h3]; rfl⟩
      · refine .inr ⟨fun p hp => ?_, by rw [h2]⟩
        rcases List.mem_cons.1 hp with rfl | hp
        · exact hk
        · exact h1 p hp
structure MapAt (P : Program) (φ : Nat → Loc) (dm : Nat → Prop) (H : AH) (w : World) (k : TypeId) (kd b : Nat) (K : AV) (l : List (AV × AV)) (es : Array MapEntry) (cl : Nat) : Prop where
  at_ : w.heap[(φ b).blk]? = some (.map es cl)
  perm : (es.toList.map kv).Perm (l.map (cv φ))
  nodup : (l.map fun p => conc φ p.1).Nodup
  scs : ∀ p ∈ l, sc dm p.1 ∧ sc dm p.2
  borns : (es.toList.map (·.born)).Nodup
  old : ∀ e ∈ es.toList, e.born < cl
  same : ∀ p ∈ l, ∀ b, keyEq H kd K p.1 = some b → (b = true ↔ conc φ K = conc φ p.1)
  cmp : ∀ e ∈ es.toList, ∃ b, Cmp P w k kd (conc φ K) e.key b
theorem mapAt (hr : Rel P φ dm H w) {k : TypeId} {kd b : Nat} {K : AV} {l : List (AV × AV)} (hk : KD P k kd) (hb : H.bl.get b = some (.map l)) (hd : dm b) (hK : sc dm K) (hc : cmpAll H kd K l = true) :
    ∃ es cl, MapAt P φ dm H w k kd b K l es cl := by
  obtain ⟨es, cl, h1, h2, h3, h4, h5, h6⟩ := hr.blk b _ hb hd
  refine ⟨es, cl, h1, h2, h3, h4, h5, h6, fun p hp b hb => (keyEq_sound hr hk hb hK (h4 p hp).1).iff, fun e he => ?_⟩
  have hm : kv e ∈ l.map (cv φ) := h2.mem_iff.1 (List.mem_map.2 ⟨e, he, rfl⟩)
  obtain ⟨p, hp, hpe⟩ := List.mem_map.1 hm
  have hcp := List.all_eq_true.1 hc p hp
  obtain ⟨b, hb⟩ := Option.isSome_iff_exists.1 hcp
  have := keyEq_sound hr hk hb hK (h4 p hp).1
  have he' : conc φ p.1 = e.key := congrArg Prod.fst hpe
  rw [he'] at this
  exact ⟨b, this⟩
theorem MapAt.found {k : TypeId} {kd b : Nat} {K : AV} {l : List (AV × AV)} {es : Array MapEntry} {cl : Nat} (M : MapAt P φ dm H w k kd b K l es cl) {i : Nat} {e : MapEntry} (he : es.toList[i]? = some e) (hk : e.key = conc φ K)
    {m1 m2 : List (AV × AV)} {x u : AV} (hl : l = m1 ++ (x, u) :: m2) (hx : keyEq H kd K x = some true) : conc φ x = conc φ K ∧ e.val = conc φ u := by
  have hxl : (x, u) ∈ l := by rw [hl]; simp
  have hxk : conc φ x = conc φ K := ((M.same _ hxl true hx).1 rfl).symm
  refine ⟨hxk, ?_⟩
  have hm : kv e ∈ l.map (cv φ) := M.perm.mem_iff.1 (List.mem_map.2 ⟨e, List.mem_of_getElem? he, rfl⟩)
  obtain ⟨p, hp, hpe⟩ := List.mem_map.1 hm
  have hpk : conc φ p.1 = conc φ K := (congrArg Prod.fst hpe).trans hk
  have hpx : p = (x, u) := by
    have hnd := M.nodup
    obtain ⟨i1, h1⟩ := List.mem_iff_getElem?.1 hp
    obtain ⟨i2, h2⟩ := List.mem_iff_getElem?.1 hxl
    have e1 : (l.map fun p => conc φ p.1)[i1]? = some (conc φ K) := by rw [List.getElem?_map, h1]; simp [hpk]
    have e2 : (l.map fun p => conc φ p.1)[i2]? = some (conc φ K) := by rw [List.getElem?_map, h2]; simp [hxk]
    have hlt : i1 < (l.map fun p => conc φ p.1).length := (List.getElem?_eq_some_iff.1 e1).1
    have : i1 = i2 := (List.getElem?_inj hlt hnd).1 (e1.trans e2.symm)
    subst this
    rw [h1] at h2
    injection h2
  subst hpx
  exact (congrArg Prod.snd hpe).symm
theorem MapAt.noKey {k : TypeId} {kd b : Nat} {K : AV} {l : List (AV × AV)} {es : Array MapEntry} {cl : Nat} (M : MapAt P φ dm H w k kd b K l es cl) {m1 m2 : List (AV × AV)} {x u : AV} (hl : l = m1 ++ (x, u) :: m2) (hx : keyEq H kd K x = some true) :
    ¬ ∀ e ∈ es.toList, e.key ≠ conc φ K := by
  intro h
  have hxl : (x, u) ∈ l := by rw [hl]; simp
  have hxk : conc φ x = conc φ K := ((M.same _ hxl true hx).1 rfl).symm
  have hm : cv φ (x, u) ∈ es.toList.map kv := M.perm.mem_iff.2 (List.mem_map.2 ⟨_, hxl, rfl⟩)
  obtain ⟨e, he, hee⟩ := List.mem_map.1 hm
  exact h e he ((congrArg Prod.fst hee).trans hxk)
theorem MapAt.aKey {k : TypeId} {kd b : Nat} {K : AV} {l : List (AV × AV)} {es : Array MapEntry} {cl : Nat} (M : MapAt P φ dm H w k kd b K l es cl) (hc : cmpAll H kd K l = true) (h : ∀ p ∈ l, keyEq H kd K p.1 ≠ some true) : ∀ e ∈ es.toList, e.key ≠ conc φ K := by
  intro e he hek
  have hm : kv e ∈ l.map (cv φ) := M.perm.mem_iff.1 (List.mem_map.2 ⟨e, he, rfl⟩)
  obtain ⟨p, hp, hpe⟩ := List.mem_map.1 hm
  obtain ⟨b, hb⟩ := Option.isSome_iff_exists.1 (List.all_eq_true.1 hc p hp)
  have hpk : conc φ p.1 = e.key := congrArg Prod.fst hpe
  have : b = true := (M.same p hp b hb).2 (by rw [hpk, hek])
  subst this
  exact h p hp hb
theorem ok_lookup {t e : TypeId} {kd : Nat} {z : AV} {ok : Bool} {x y : Operand} {u q : Od} (ht : keyK P t = some (kd, e)) (hz : zeroAV P e = some z) (hx : odOf x = some u) (hy : odOf y = some q)
    (hv : onceIR g H (.lookup kd z ok u q) = some (v, H')) (R : RR φ dm g a) (hr : Rel P φ dm H w) :
    Good P φ dm H w ((do pure (Next.value (← Instr.lookup t (a.eval x) (a.eval y) ok)) : Sem Next).run P w) v H' := by
  obtain ⟨k, hu, hk⟩ := keyK_spec ht
  obtain ⟨hz1, hz2⟩ := zeroAV_spec hz φ dm w
  simp only [onceIR] at hv
  split at hv
  case h_2 => contradiction
  rename_i K he
  obtain ⟨d1, d2⟩ := od_spec R hy he
  split at hv
  · rename_i hm
    split at hv
    · injection hv with hv
      injection hv with h1 h2
      subst h1
      subst h2
      obtain ⟨c1, _⟩ := od_spec R hx hm
      have hck := checkKey_run (P := P) (w := w) hk true (conc φ K)
      obtain ⟨r, hr1, hr2⟩ := findKey_run (P := P) (w := w) hk (K := conc φ K) [] (by simp)
      have hrn : r = none := by
        cases r with
        | none => rfl
        | some ju => obtain ⟨e', h, _⟩ := hr2; simp at h
      subst hrn
      refine Good.still (run_v' _ ?_) (by cases ok <;> simp [sc, scL, hz2]) hr
      rw [c1, d1]
      simp only [Instr.lookup, Sem.run_bind, run_underlying hu, Result.andThen_ok, conc, Sem.run_pure, Array.isEmpty_empty, hck, hr1, hz1]
      cases ok <;> simp [conc, concL]
    · contradiction
  · rename_i b hm
    obtain ⟨c1, c2⟩ := od_spec R hx hm
    split at hv
    · rename_i l hl
      split at hv
      · rename_i hc
        rw [Bool.and_eq_true] at hc
        obtain ⟨es, cl, M⟩ := mapAt hr hk hl c2 d2 hc.1
        have hck := checkKey_run (P := P) (w := w) hk es.isEmpty (conc φ K)
        obtain ⟨r, hr1, hr2⟩ := findKey_run (P := P) (w := w) hk (K := conc φ K) es.toList M.cmp
        split at hv
        · rename_i uu hf
          injection hv with hv
          injection hv with h1 h2
          subst h1
          subst h2
          obtain ⟨m1, xx, m2, hl1, hl2⟩ := findA_some hf
          cases r with
          | none => exact absurd hr2 (M.noKey hl1 hl2)
          | some ju =>
            obtain ⟨j, uv⟩ := ju
            obtain ⟨e', he1, he2, he3⟩ := hr2
            obtain ⟨_, hval⟩ := M.found he1 he2 hl1 hl2
            have hsu : sc dm uu := (M.scs (xx, uu) (by rw [hl1]; simp)).2
            refine Good.still (run_v' _ ?_) (by cases ok <;> simp [sc, scL, hsu]) hr
            rw [c1, d1]
            simp only [Instr.lookup, Sem.run_bind, run_underlying hu, Result.andThen_ok, conc, run_getMap M.at_, Sem.run_pure, hck, hr1]
            rw [← he3, hval]
            cases ok <;> simp [conc, concL]
        · rename_i hf
          injection hv with hv
          injection hv with h1 h2
          subst h1
          subst h2
          have hno := M.aKey hc.1 (findA_none hf)
          cases r with
          | some ju =>
            obtain ⟨j, uv⟩ := ju
            obtain ⟨e', he1, he2, he3⟩ := hr2
            exact absurd he2 (hno e' (List.mem_of_getElem? he1))
          | none =>
            refine Good.still (run_v' _ ?_) (by cases ok <;> simp [sc, scL, hz2]) hr
            rw [c1, d1]
            simp only [Instr.lookup, Sem.run_bind, run_underlying hu, Result.andThen_ok, conc, run_getMap M.at_, Sem.run_pure, hck, hr1, hz1]
            cases ok <;> simp [conc, concL]
      · contradiction
    · contradiction
  · contradiction
end
end Ex
end Go.Proofs.YtfehlbepjmmkeaaGreatDoor
namespace Go.Proofs.YtfehlbepjmmkeaaGreatDoor
open Go.RowKit
namespace Ex
noncomputable section
variable {P : Program} {φ : Nat → Loc} {dm : Nat → Prop} {g : Nat → Option AV} {a : Act} {H H' : AH} {w : World} {v : AV}
theorem sameBits_key {kd : Nat} {K : AV} (h : keyOf kd K = true) : Instr.sameBits 10000 (conc φ K) (conc φ K) = true := by
  unfold keyOf at h
  split at h <;> first | (simp [conc, Instr.sameBits]; done) | contradiction | (simp [conc, Instr.sameBits, bytes_beq])
theorem split_at {α : Type} {l : List α} {i : Nat} {e : α} (h : l[i]? = some e) : ∃ l1 l2, l = l1 ++ e :: l2 ∧ l1.length = i := by
  refine ⟨l.take i, l.drop (i + 1), ?_, ?_⟩
  · have hlt := (List.getElem?_eq_some_iff.1 h).1
    have he := (List.getElem?_eq_some_iff.1 h).2
    have : l.drop i = e :: l.drop (i + 1) := by rw [List.drop_eq_getElem_cons hlt, he]
    rw [← this, List.take_append_drop]
  · rw [List.length_take]; have := (List.getElem?_eq_some_iff.1 h).1; omega
theorem Rel.turnMap (hr : Rel P φ dm H w) {b : Nat} {l l' : List (AV × AV)} {es es' : Array MapEntry} {cl cl' : Nat} (hb : H.bl.get b = some (.map l)) (hd : dm b) (hlim : b < LIM) (hat : w.heap[(φ b).blk]? = some (.map es cl))
    (perm : (es'.toList.map kv).Perm (l'.map (cv φ))) (nodup : (l'.map fun p => conc φ p.1).Nodup) (scs : ∀ p ∈ l', sc dm p.1 ∧ sc dm p.2) (borns : (es'.toList.map (·.born)).Nodup) (old : ∀ e ∈ es'.toList, e.born < cl') :
    Rel P φ dm (H.put b (some (.map l'))) { w with heap := w.heap.setIfInBounds (φ b).blk (.map es' cl') } ∧ Grow φ dm H w φ dm (H.put b (some (.map l'))) { w with heap := w.heap.setIfInBounds (φ b).blk (.map es' cl') } := by
  have hlt : (φ b).blk < w.heap.size := (Array.getElem?_eq_some_iff.1 hat).1
  refine hr.turn (w' := { w with heap := w.heap.setIfInBounds (φ b).blk (.map es' cl') }) (x := .map l') (H' := H.put b (some (.map l'))) hb hd rfl rfl rfl (by simp) (fun i hi => ?_) (fun k => tset _ _ _ _ hlim) rfl ⟨es', cl', ?_, perm, nodup, scs, borns, old⟩
  · exact Array.getElem?_setIfInBounds_ne (Ne.symm hi)
  · exact Array.getElem?_setIfInBounds_self_of_lt hlt
theorem modify_mid {α : Type} (f : α → α) : ∀ (l1 : List α) (e : α) (l2 : List α), (l1 ++ e :: l2).modify l1.length f = l1 ++ f e :: l2
  | [], e, l2 => by simp
  | x :: l1, e, l2 => by simp [modify_mid f l1 e l2]
theorem ok_update {t e : TypeId} {kd : Nat} {x y z : Operand} {u q r : Od} (ht : keyK P t = some (kd, e)) (hx : odOf x = some u) (hy : odOf y = some q) (hz : odOf z = some r)
    (hv : onceIR g H (.update kd u q r) = some (v, H')) (R : RR φ dm g a) (hr : Rel P φ dm H w) :
    Good P φ dm H w ((do Instr.mapUpdate t (a.eval x) (a.eval y) (a.eval z); pure Next.skip : Sem Next).run P w) v H' := by
  obtain ⟨k, hu, hk⟩ := keyK_spec ht
  simp only [onceIR] at hv
  split at hv
  case h_2 => contradiction
  rename_i K he
  obtain ⟨d1, d2⟩ := od_spec R hy he
  split at hv
  case h_2 => contradiction
  rename_i V hV
  obtain ⟨v1, v2⟩ := od_spec R hz hV
  split at hv
  case h_2 => contradiction
  rename_i b hm
  obtain ⟨c1, c2⟩ := od_spec R hx hm
  split at hv
  case h_2 => contradiction
  rename_i l hl
  split at hv
  case isFalse => contradiction
  rename_i hc
  rw [Bool.and_eq_true, Bool.and_eq_true] at hc
  obtain ⟨⟨hc1, hc2⟩, hc3⟩ := hc
  have hlim : b < LIM := of_decide_eq_true hc3
  injection hv with hv
  injection hv with h1 h2
  subst h1
  subst h2
  obtain ⟨es, cl, M⟩ := mapAt hr hk hl c2 d2 hc1
  have hck := checkKey_run (P := P) (w := w) hk false (conc φ K)
  obtain ⟨rr, hr1, hr2⟩ := findKey_run (P := P) (w := w) hk (K := conc φ K) es.toList M.cmp
  rw [c1, d1, v1]
  rcases updA_cases (H := H) (kd := kd) (k := K) (v := V) l with ⟨m1, xx, uu, m2, hl1, hl2, hl3⟩ | ⟨hl1, hl2⟩
  · cases rr with
    | none => exact absurd hr2 (M.noKey hl1 hl2)
    | some ju =>
      obtain ⟨j, uv⟩ := ju
      obtain ⟨e', he1, he2, he3⟩ := hr2
      obtain ⟨hxk, hval⟩ := M.found he1 he2 hl1 hl2
      obtain ⟨l1, l2, hes, hlen⟩ := split_at he1
      have hes' : (es.modify j fun e => { e with key := conc φ K, val := conc φ V }).toList = l1 ++ { e' with key := conc φ K, val := conc φ V } :: l2 := by
        rw [Array.toList_modify, hes, ← hlen]
        exact modify_mid _ l1 e' l2
      have hstay : (Instr.keyThatStays (((es[j]?).map (·.key)).getD (conc φ K)) (conc φ K)).run P w = .ok (conc φ K) w := by
        have : es[j]? = some e' := by rw [← he1]; simp
        rw [this]
        simp only [Option.map_some, Option.getD_some, he2, Instr.keyThatStays, sameBits_key hc2, if_true, Sem.run_pure]
      have p1 : ((l1 ++ l2).map kv).Perm ((m1 ++ m2).map (cv φ)) := by
        have hp := M.perm
        rw [hes, hl1, List.map_append, List.map_cons, List.map_append, List.map_cons] at hp
        have hp2 := (List.perm_middle.symm.trans hp).trans List.perm_middle
        have e1 : kv e' = cv φ (xx, uu) := by simp [kv, cv, he2, hxk, hval]
        rw [e1] at hp2
        have := hp2.cons_inv
        simpa using this
      have hturn := hr.turnMap (l' := m1 ++ (K, V) :: m2) (es' := es.modify j fun e => { e with key := conc φ K, val := conc φ V }) (cl' := cl) hl c2 hlim M.at_
        (by
          rw [hes', List.map_append, List.map_cons, List.map_append, List.map_cons]
          refine List.perm_middle.trans (List.Perm.trans ?_ List.perm_middle.symm)
          refine List.Perm.cons _ ?_
          simpa using p1)
        (by
          have := M.nodup
          rw [hl1, List.map_append, List.map_cons] at this
          rw [List.map_append, List.map_cons]
          simpa [hxk] using this)
        (by
          intro p hp
          rcases List.mem_append.1 hp with h | h
          · exact M.scs p (by rw [hl1]; simp [h])
          · rcases List.mem_cons.1 h with rfl | h
            · exact ⟨d2, v2⟩
            · exact M.scs p (by rw [hl1]; simp [h]))
        (by
          have := M.borns
          rw [hes, List.map_append, List.map_cons] at this
          rw [hes', List.map_append, List.map_cons]
          exact this)
        (by
          intro e he
          rw [hes'] at he
          have := M.old
          rw [hes] at this
          rcases List.mem_append.1 he with h | h
          · exact this e (by simp [h])
          · rcases List.mem_cons.1 h with rfl | h
            · exact this e' (by simp)
            · exact this e (by simp [h]))
      rw [hl3]
      refine ⟨φ, dm, _, .skip, run_u' _ ?_, .inr ⟨rfl, rfl⟩, by simp [sc, scL], hturn.1, hturn.2⟩
      simp only [Instr.mapUpdate, Sem.run_bind, run_underlying hu, Result.andThen_ok, conc, run_getMap M.at_, hck, hr1, hstay, run_setMap _ M.at_]
  · have hno := M.aKey hc1 hl1
    cases rr with
    | some ju =>
      obtain ⟨j, uv⟩ := ju
      obtain ⟨e', he1, he2, he3⟩ := hr2
      exact absurd he2 (hno e' (List.mem_of_getElem? he1))
    | none =>
      have hturn := hr.turnMap (l' := l ++ [(K, V)]) (es' := es.push { key := conc φ K, val := conc φ V, born := cl }) (cl' := cl + 1) hl c2 hlim M.at_
        (by rw [Array.toList_push, List.map_append, List.map_append]; exact M.perm.append (List.Perm.refl _))
        (by
          rw [List.map_append, List.map_cons, List.map_nil]
          refine List.nodup_append.2 ⟨M.nodup, by simp, ?_⟩
          intro p hp y hy
          simp only [List.mem_singleton] at hy
          subst hy
          intro he
          obtain ⟨pp, hpp, rfl⟩ := List.mem_map.1 hp
          have hm : cv φ pp ∈ es.toList.map kv := M.perm.mem_iff.2 (List.mem_map.2 ⟨_, hpp, rfl⟩)
          obtain ⟨e', he', hee⟩ := List.mem_map.1 hm
          exact hno e' he' ((congrArg Prod.fst hee).trans he))
        (by
          intro p hp
          rcases List.mem_append.1 hp with h | h
          · exact M.scs p h
          · simp only [List.mem_singleton] at h; subst h; exact ⟨d2, v2⟩)
        (by
          rw [Array.toList_push, List.map_append, List.map_cons, List.map_nil]
          refine List.nodup_append.2 ⟨M.borns, by simp, ?_⟩
          intro p hp y hy
          simp only [List.mem_singleton] at hy
          subst hy
          obtain ⟨e', he', rfl⟩ := List.mem_map.1 hp
          exact Nat.ne_of_lt (M.old e' he'))
        (by
          intro e he
          rw [Array.toList_push] at he
          rcases List.mem_append.1 he with h | h
          · exact Nat.lt_succ_of_lt (M.old e h)
          · simp only [List.mem_singleton] at h; subst h; exact Nat.lt_succ_self _)
      rw [hl2]
      refine ⟨φ, dm, _, .skip, run_u' _ ?_, .inr ⟨rfl, rfl⟩, by simp [sc, scL], hturn.1, hturn.2⟩
      simp only [Instr.mapUpdate, Sem.run_bind, run_underlying hu, Result.andThen_ok, conc, run_getMap M.at_, hck, hr1, run_setMap _ M.at_]
theorem ok_delete {t e : TypeId} {kd : Nat} {ts : Array TypeId} {ty : TypeId} {x y : Operand} {u q : Od} (ht0 : ts[0]? = some t) (ht : keyK P t = some (kd, e)) (hx : odOf x = some u) (hy : odOf y = some q)
    (hv : onceIR g H (.delete kd u q) = some (v, H')) (R : RR φ dm g a) (hr : Rel P φ dm H w) :
    Good P φ dm H w ((do pure (Next.value (← Builtin.delete_ ts ty #[a.eval x, a.eval y])) : Sem Next).run P w) v H' := by
  obtain ⟨k, hu, hk⟩ := keyK_spec ht
  simp only [onceIR] at hv
  split at hv
  case h_2 => contradiction
  rename_i K he
  obtain ⟨d1, d2⟩ := od_spec R hy he
  split at hv
  · rename_i hm
    split at hv
    · injection hv with hv
      injection hv with h1 h2
      subst h1
      subst h2
      obtain ⟨c1, _⟩ := od_spec R hx hm
      have hck := checkKey_run (P := P) (w := w) hk true (conc φ K)
      refine Good.still (run_v' _ ?_) (by simp [sc, scL]) hr
      rw [c1, d1]
      simp [Builtin.delete_, ht0, run_underlying hu, conc, concL, hck]
    · contradiction
  · rename_i b hm
    obtain ⟨c1, c2⟩ := od_spec R hx hm
    split at hv
    case h_2 => contradiction
    rename_i l hl
    split at hv
    case isFalse => contradiction
    rename_i hc
    rw [Bool.and_eq_true, Bool.and_eq_true] at hc
    obtain ⟨⟨hc1, hc2⟩, hc3⟩ := hc
    have hlim : b < LIM := of_decide_eq_true hc3
    injection hv with hv
    injection hv with h1 h2
    subst h1
    subst h2
    obtain ⟨es, cl, M⟩ := mapAt hr hk hl c2 d2 hc1
    have hck := checkKey_run (P := P) (w := w) hk es.isEmpty (conc φ K)
    obtain ⟨rr, hr1, hr2⟩ := findKey_run (P := P) (w := w) hk (K := conc φ K) es.toList M.cmp
    rw [c1, d1]
    rcases delA_cases (H := H) (kd := kd) (k := K) l with ⟨m1, xx, uu, m2, hl1, hl2, hl3⟩ | ⟨hl1, hl2⟩
    · cases rr with
      | none => exact absurd hr2 (M.noKey hl1 hl2)
      | some ju =>
        obtain ⟨j, uv⟩ := ju
        obtain ⟨e', he1, he2, he3⟩ := hr2
        obtain ⟨hxk, hval⟩ := M.found he1 he2 hl1 hl2
        obtain ⟨l1, l2, hes, hlen⟩ := split_at he1
        have hes' : (es.eraseIdxIfInBounds j).toList = l1 ++ l2 := by
          rw [Array.toList_eraseIdxIfInBounds, hes, ← hlen]
          rw [List.eraseIdx_append_of_length_le (Nat.le_refl _)]
          simp
        have p1 : ((l1 ++ l2).map kv).Perm ((m1 ++ m2).map (cv φ)) := by
          have hp := M.perm
          rw [hes, hl1, List.map_append, List.map_cons, List.map_append, List.map_cons] at hp
          have hp2 := (List.perm_middle.symm.trans hp).trans List.perm_middle
          have e1 : kv e' = cv φ (xx, uu) := by simp [kv, cv, he2, hxk, hval]
          rw [e1] at hp2
          have := hp2.cons_inv
          simpa using this
        have hturn := hr.turnMap (l' := m1 ++ m2) (es' := es.eraseIdxIfInBounds j) (cl' := cl) hl c2 hlim M.at_
          (by rw [hes']; exact p1)
          (by
            have := M.nodup
            rw [hl1, List.map_append, List.map_cons] at this
            rw [List.map_append]
            have := (List.perm_middle.nodup_iff.1 this)
            exact (List.nodup_cons.1 this).2)
          (by
            intro p hp
            rcases List.mem_append.1 hp with h | h
            · exact M.scs p (by rw [hl1]; simp [h])
            · exact M.scs p (by rw [hl1]; simp [h]))
          (by
            have := M.borns
            rw [hes, List.map_append, List.map_cons] at this
            rw [hes', List.map_append]
            exact (List.nodup_cons.1 (List.perm_middle.nodup_iff.1 this)).2)
          (by
            intro e he
            rw [hes'] at he
            have := M.old
            rw [hes] at this
            rcases List.mem_append.1 he with h | h
            · exact this e (by simp [h])
            · exact this e (by simp [h]))
        rw [hl3]
        refine ⟨φ, dm, _, _, run_v' _ (v := .tuple #[]) ?_, .inl (by simp [conc, concL]), by simp [sc, scL], hturn.1, hturn.2⟩
        simp [Builtin.delete_, ht0, run_underlying hu, conc, run_getMap M.at_, hck, hr1, run_setMap _ M.at_]
    · have hno := M.aKey hc1 hl1
      cases rr with
      | some ju =>
        obtain ⟨j, uv⟩ := ju
        obtain ⟨e', he1, he2, he3⟩ := hr2
        exact absurd he2 (hno e' (List.mem_of_getElem? he1))
      | none =>
        have hturn := hr.turnMap (l' := l) (es' := es) (cl' := cl) hl c2 hlim M.at_ M.perm M.nodup M.scs M.borns M.old
        rw [hl2]
        refine ⟨φ, dm, _, _, run_v' _ (v := .tuple #[]) ?_, .inl (by simp [conc, concL]), by simp [sc, scL], hturn.1, hturn.2⟩
        simp [Builtin.delete_, ht0, run_underlying hu, conc, run_getMap M.at_, hck, hr1, run_setMap _ M.at_]
  · contradiction
end
end Ex
end Go.Proofs.YtfehlbepjmmkeaaGreatDoor
namespace Go.Proofs.YtfehlbepjmmkeaaGreatDoor
open Go.RowKit
namespace Ex
noncomputable section
variable {P : Program} {φ : Nat → Loc} {dm : Nat → Prop} {g : Nat → Option AV} {a : Act} {H H' : AH} {w : World} {v : AV}
theorem ok_eqP {op : BinOp} {t e : TypeId} {n : Nat} {x y : Operand} {u q : Od} (ht : P.underlying t = some (.pointer e)) (hn : sizeT P e = some n) (h0 : n ≠ 0) (hop : op = .eql ∨ op = .neq)
    (hx : odOf x = some u) (hy : odOf y = some q) (hv : onceIR g H (.eqP (op == .neq) u q) = some (v, H')) (R : RR φ dm g a) (hr : Rel P φ dm H w) :
    Good P φ dm H w ((do pure (Next.value (← (do eqGuard op t x y (a.eval x) (a.eval y); binOp op t (a.eval x) (a.eval y) : Sem Value))) : Sem Next).run P w) v H' := by
  have hg : ∀ p q : Option Addr, (eqGuard op t x y (.pointer p) (.pointer q)).run P w = .ok () w := by
    intro p q
    rcases hop with rfl | rfl <;> simp [eqGuard]
  have hb : ∀ (p q : Option Addr) (r : Bool), (Op.equal t (.pointer p) (.pointer q)).run P w = .ok r w →
      ((do eqGuard op t x y (.pointer p) (.pointer q); binOp op t (.pointer p) (.pointer q) : Sem Value)).run P w = .ok (.bool (if op == .neq then !r else r)) w := by
    intro p q r h
    rw [run_step (hg p q)]
    rcases hop with rfl | rfl <;> simp [binOp, h]
  have he0 : ∀ p : Option Addr, (Op.equal t (.pointer none) (.pointer p)).run P w = .ok p.isNone w := by
    intro p
    show (Op.equalIn (9999 + 1) t _ _).run P w = _
    rw [Op.equalIn]; simp [run_underlying ht]
  have he1 : ∀ p : Addr, (Op.equal t (.pointer (some p)) (.pointer none)).run P w = .ok false w := by
    intro p
    show (Op.equalIn (9999 + 1) t _ _).run P w = _
    rw [Op.equalIn]; simp [run_underlying ht]
  simp only [onceIR] at hv
  split at hv
  · rename_i b o hxe
    obtain ⟨c1, c2⟩ := od_spec R hx hxe
    split at hv
    · rename_i b' o' hye
      obtain ⟨d1, d2⟩ := od_spec R hy hye
      split at hv
      · rename_i r hp
        injection hv with hv
        injection hv with h1 h2
        subst h1
        subst h2
        obtain ⟨s1, _⟩ := ptrEq_sound hr hp c2 d2
        refine Good.still (run_v' _ ?_) (by simp [sc]) hr
        rw [c1, d1]
        exact hb _ _ _ (equal_ptr ht hn h0 _ _ s1)
      · contradiction
    · rename_i hye
      obtain ⟨d1, _⟩ := od_spec R hy hye
      injection hv with hv
      injection hv with h1 h2
      subst h1
      subst h2
      refine Good.still (run_v' _ ?_) (by simp [sc]) hr
      rw [c1, d1]
      have := hb (some ⟨(φ b).blk, (φ b).base + o, none⟩) none false (he1 _)
      simp only [conc]
      rw [this]
      rcases hop with rfl | rfl <;> rfl
    · contradiction
  · rename_i hxe
    obtain ⟨c1, c2⟩ := od_spec R hx hxe
    split at hv
    · rename_i b' o' hye
      obtain ⟨d1, _⟩ := od_spec R hy hye
      injection hv with hv
      injection hv with h1 h2
      subst h1
      subst h2
      refine Good.still (run_v' _ ?_) (by simp [sc]) hr
      rw [c1, d1]
      have := hb none (some ⟨(φ b').blk, (φ b').base + o', none⟩) false (he0 _)
      simp only [conc]
      rw [this]
      rcases hop with rfl | rfl <;> rfl
    · rename_i hye
      obtain ⟨d1, _⟩ := od_spec R hy hye
      injection hv with hv
      injection hv with h1 h2
      subst h1
      subst h2
      refine Good.still (run_v' _ ?_) (by simp [sc]) hr
      rw [c1, d1]
      have := hb none none true (he0 _)
      simp only [conc]
      rw [this]
      rcases hop with rfl | rfl <;> rfl
    · contradiction
  · contradiction
structure Ext (P : Program) : Prop where
  mix : P.follows .mixedOrders = true
  idx : ∀ f fn, P.funcs[f]? = some fn → ¬ fn.body.isSome = true → fn.name = nmIdx → ∀ args w v, (Extern.BytealgIndexByte.indexByte args).run P w = .ok v w → (callFunc f args).run P w = .ok (.value v) w
  cnt : ∀ f fn, P.funcs[f]? = some fn → ¬ fn.body.isSome = true → fn.name = nmCnt → ∀ args w v, (Extern.BytealgCount.count args).run P w = .ok v w → (callFunc f args).run P w = .ok (.value v) w
  esc : ∀ f fn, P.funcs[f]? = some fn → ¬ fn.body.isSome = true → fn.name = nmEsc → ∀ v w, (callFunc f #[v]).run P w = .ok (.value v) w
end
end Ex
end Go.Proofs.YtfehlbepjmmkeaaGreatDoor
