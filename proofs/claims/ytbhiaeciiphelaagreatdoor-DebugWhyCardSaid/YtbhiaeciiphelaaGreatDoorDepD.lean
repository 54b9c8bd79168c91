/-
  DERIVED. The rows that the reference gathers, of each address what it sees: how they lie, and what a step does to them. Condition: each theorem's own on memory.
-/
import Derived.Test.YtbhiaeciiphelaaGreatDoorShelf
import Derived.Test.YtbhiaeciiphelaaGreatDoorDepG
import Derived.Laws.OwnMore
import Derived.Test.YtbhiaeciiphelaaGreatDoorEvX
import Derived.WalkMore
import Derived.Deep.OwnRows
import Derived.Deep.RegionHeld3
import Derived.Deep.RegionLaw
import Derived.Deep.AppendLies
namespace Go.Proofs.YtbhiaeciiphelaaGreatDoor
open Go.RowKit
theorem step_append_row {P : Program} {w : World} {ops : Array Oper} {o : Oper} {a : Act} {K : Act → World → Prop} {Q : Exit → Act → World → Prop} {E : Prop} (hgd : o.guard = none) (s x : Operand) (t : TypeId)
    (ho : o.op = .call { callee := .builtin .append, args := #[s, x], argTypes := #[t, t] }) (base base2 : Nat) (e : TypeId) (i : TypeInfo) (z : Value) (bytes : Nat) (ht : P.underlying t = some (.slice e)) (hi : P.info? e = some i) (hz : i.zero = some z)
    (hsize : i.size = 1) (hby : i.bytes = bytes) (hzs : z.cells.size = 1) (v : Value) (n : Nat) (xs : List Value) (hs : a.eval s = v) (hown : w.ownsRow base e 1 v n xs)
    (xv : Value) (m : Nat) (news : List Value) (hx : a.eval x = xv) (hown2 : w.ownsRow base2 e 1 xv m news) (h1 : ∀ u ∈ news, u.oneCell' = true)
    (h63 : n + m ≤ maxLen) (hbytes : (n + m) * bytes ≤ 140737488355328) (hbase : base ≤ w.heap.size)
    (h : ∀ v' w', w'.ownsRow base e 1 v' (n + m) (xs ++ news) → w.grownBy w' v.ownBlock → (v'.ownBlock = v.ownBlock ∨ v'.ownBlock = some w.heap.size) → K (a.put o.dst v') w') :
    if Region.wanted o (yielded ops a.tmps) = true then Oper.wp P o a w K Q else E := by
  have hw : Region.wanted o (yielded ops a.tmps) = true := by simp [Region.wanted, hgd]
  rw [if_pos hw]
  rcases hown2.2 with ⟨rfl, hm0⟩ | ⟨g, cap, cur, rfl, _, hg, hc, _⟩
  · have hnil : news = [] := List.eq_nil_of_length_eq_zero (by rw [hown2.1, hm0])
    subst hm0 hnil
    have hrun := run_append_owned_none (P := P) (w := w) base t o.type e i 1 ht hi v n xs hown
    unfold Oper.wp
    simp [execOp, ho, resolve, invoke, builtin, hs, hx, hrun, Result.andThen]
    exact h v w (by rw [List.append_nil]; exact hown) ⟨rfl, rfl, rfl, Nat.le_refl _, fun _ _ _ => rfl⟩ (.inl rfl)
  · obtain ⟨v', w', hr, h2, h3, h4, h5⟩ := run_append_own_at (P := P) w base t o.type e i z 1 bytes ht hi hz hsize hby hzs (by decide) v n xs hown ⟨g, 0, none⟩ m cap news hown2.1 (fun j u hj => hown2.cells (g := g) rfl j u hj) h1 h63 hbytes hbase
    unfold Oper.wp execOp
    simp only [ho, resolve, invoke, builtin, Sem.run_bind, Sem.run_pure, Result.andThen_ok, List.map_toArray, List.map_cons, List.map_nil, hs, hx, hr]
    exact h v' w' h2 h3 h5
theorem Fam.more {base n : Nat} {W W' : World} {F : Nat → Value} {C : Nat → List Int} (h : Fam base W F C n) (hk : Keeps W W') {v : Value} {c : List Int} (hr : W'.ownsRow base 3 1 v c.length (ints c)) (hat : ∀ b, v.ownBlock = some b → W.heap.size ≤ b) :
    Fam base W' (fun k => if k = n then v else F k) (fun k => if k = n then c else C k) (n + 1) := by
  have h' := h.keeps hk
  refine ⟨fun k hk => ?_, fun j k b hj hk hjk hb => ?_⟩
  · by_cases e : k = n
    · simp only [e, if_true]; exact hr
    · simp only [e, if_false]; exact h'.rows k (by omega)
  · by_cases e : j = n
    · simp only [e, if_true] at hb
      have e2 : ¬ k = n := fun x => hjk (by rw [e, x])
      simp only [e2, if_false]
      intro hkb
      have h1 := hat b hb
      have h2 := ((h.rows k (by omega)).lt b hkb).2
      omega
    · simp only [e, if_false] at hb
      by_cases e2 : k = n
      · simp only [e2, if_true]
        intro hkb
        have h1 := hat b hkb
        have h2 := ((h.rows j (by omega)).lt b hb).2
        omega
      · simp only [e2, if_false]; exact h'.apart j k b (by omega) (by omega) hjk hb
structure SeesMem (w W : World) (B : Nat) (ads : List Int) (F : Nat → Value) (C : Nat → List Int) : Prop where
  kept : Keeps w W
  nB : w.heap.size ≤ B
  fam : Fam w.heap.size W F C (ads.length + 1)
  great : ∃ cur, W.heap[B]? = some (.cells cur 35 (0, 0)) ∧ cur.size = 30000 ∧ (∀ (k : Nat) (a : Int), ads[k]? = some a → cur[a.toNat]? = some (F (k + 1))) ∧ ∀ a : Int, 0 ≤ a → a < 30000 → a ∉ ads → cur[a.toNat]? = some (.slice none 0 0)
  addr : ∀ a ∈ ads, 0 ≤ a ∧ a < 30000
  nd : ads.Nodup
section
variable {w W W' : World} {B : Nat} {ads : List Int} {F : Nat → Value} {C : Nat → List Int}
theorem SeesMem.ne (h : SeesMem w W B ads F C) {k b : Nat} (hk : k < ads.length + 1) (hb : (F k).ownBlock = some b) : b ≠ B := by
  obtain ⟨⟨cur, hc⟩, _⟩ := h.fam.block hk hb
  obtain ⟨cu2, hc2, _⟩ := h.great
  intro e
  rw [e, hc2] at hc
  simp at hc
theorem SeesMem.keeps (h : SeesMem w W B ads F C) (hk : Keeps W W') : SeesMem w W' B ads F C := by
  obtain ⟨cur, h1, h2⟩ := h.great
  exact ⟨Keeps.trans h.kept hk, h.nB, h.fam.keeps hk, ⟨cur, hk.at h1 (fun x => x), h2⟩, h.addr, h.nd⟩
theorem SeesMem.cell (h : SeesMem w W B ads F C) {k : Nat} {a : Int} (ha : ads[k]? = some a) : W.cell? ⟨B, a.toNat, none⟩ = some (F (k + 1)) := by
  obtain ⟨cur, h1, _, h3, _⟩ := h.great
  rw [cell_of_block h1]; exact h3 k a ha
theorem SeesMem.bare (h : SeesMem w W B ads F C) {a : Int} (h0 : 0 ≤ a) (h1 : a < 30000) (ha : a ∉ ads) : W.cell? ⟨B, a.toNat, none⟩ = some (.slice none 0 0) := by
  obtain ⟨cur, h2, _, _, h4⟩ := h.great
  rw [cell_of_block h2]; exact h4 a h0 h1 ha
theorem SeesMem.free (h : SeesMem w W B ads F C) (o : Nat) : W.frozen? ⟨B, o, none⟩ = false := by
  obtain ⟨cur, h1, _⟩ := h.great
  exact free_of_block h1 o
theorem SeesMem.lt (h : SeesMem w W B ads F C) : B < W.heap.size := by
  obtain ⟨cur, h1, _⟩ := h.great
  exact heap_lt h1
theorem SeesMem.opn (h : SeesMem w W B ads F C) {v : Value} {x : Int} {o : Obj} (hg : (W.alloc o).grownBy W' (F 0).ownBlock) (hr : W'.ownsRow w.heap.size 3 1 v ((C 0).length + 1) (ints (C 0) ++ [.int .i64 x]))
    (hat : v.ownBlock = (F 0).ownBlock ∨ v.ownBlock = some (W.alloc o).heap.size) : SeesMem w W' B ads (fun k => if k = 0 then v else F k) (fun k => if k = 0 then C 0 ++ [x] else C k) := by
  have hk : Kept (fun b => (F 0).ownBlock = some b) W W' := ((Kept.refl _ W).alloc o).grown hg (fun b hb _ => hb)
  have hat' : v.ownBlock = (F 0).ownBlock ∨ ∃ g, v.ownBlock = some g ∧ W.heap.size ≤ g := by
    rcases hat with e | e
    · exact .inl e
    · exact .inr ⟨_, e, by rw [World.size_alloc]; exact Nat.le_succ _⟩
  obtain ⟨cur, h1, h2, h3, h4⟩ := h.great
  refine ⟨Kept.trans h.kept hk (fun b hb hb2 => by have := (h.fam.block (Nat.succ_pos _) hb2).2; omega), h.nB, h.fam.app (Nat.succ_pos _) hk hr hat', ⟨cur, hk.at h1 (fun e => h.ne (Nat.succ_pos _) e rfl), h2, fun k a ha => ?_, h4⟩, h.addr, h.nd⟩
  show _ = some (if k + 1 = 0 then v else F (k + 1))
  rw [if_neg (by omega)]; exact h3 k a ha
theorem SeesMem.shut (h : SeesMem w W B ads F C) {g n cap : Nat} (hF : F 0 = .slice (some ⟨g, 0, none⟩) (n + 1) cap) (hn : (C 0).length = n + 1) :
    SeesMem w W B ads (fun k => if k = 0 then .slice (some ⟨g, 0, none⟩) n cap else F k) (fun k => if k = 0 then (C 0).take n else C k) := by
  have hr := h.fam.rows 0 (Nat.succ_pos _)
  rw [hF, hn] at hr
  obtain ⟨cur, h1, h2, h3, h4⟩ := h.great
  refine ⟨h.kept, h.nB, h.fam.swap ?_ (by rw [hF]; rfl) (Nat.succ_pos _), ⟨cur, h1, h2, fun k a ha => ?_, h4⟩, h.addr, h.nd⟩
  · have e1 : ((C 0).take n).length = n := by rw [List.length_take, hn]; omega
    have e2 : ints ((C 0).take n) = (ints (C 0)).take n := by simp [ints]
    rw [e1, e2]; exact row_cut hr
  · show _ = some (if k + 1 = 0 then _ else F (k + 1))
    rw [if_neg (by omega)]; exact h3 k a ha
theorem SeesMem.seen (h : SeesMem w W B ads F C) {k : Nat} {a : Int} (ha : ads[k]? = some a) {v : Value} {x : Int} {o : Obj} (hg : (W.alloc o).grownBy W' (F (k + 1)).ownBlock) (hr : W'.ownsRow w.heap.size 3 1 v ((C (k + 1)).length + 1) (ints (C (k + 1)) ++ [.int .i64 x]))
    (hat : v.ownBlock = (F (k + 1)).ownBlock ∨ v.ownBlock = some (W.alloc o).heap.size) :
    SeesMem w (W'.setCell ⟨B, a.toNat, none⟩ v) B ads (fun j => if j = k + 1 then v else F j) (fun j => if j = k + 1 then C (k + 1) ++ [x] else C j) := by
  have hkl := (List.getElem?_eq_some_iff.1 ha).1
  have hk : Kept (fun b => (F (k + 1)).ownBlock = some b) W W' := ((Kept.refl _ W).alloc o).grown hg (fun b hb _ => hb)
  have hat' : v.ownBlock = (F (k + 1)).ownBlock ∨ ∃ g, v.ownBlock = some g ∧ W.heap.size ≤ g := by
    rcases hat with e | e
    · exact .inl e
    · exact .inr ⟨_, e, by rw [World.size_alloc]; exact Nat.le_succ _⟩
  obtain ⟨cur, h1, h2, h3, h4⟩ := h.great
  have h1' : W'.heap[B]? = some (.cells cur 35 (0, 0)) := hk.at h1 (fun e => h.ne (by omega) e rfl)
  have hks : Kept (fun b => b = B) W' (W'.setCell ⟨B, a.toNat, none⟩ v) := (Kept.refl (fun b => b = B) W').one1 _ v
  have hab := h.addr a (List.mem_of_getElem? ha)
  refine ⟨Kept.one0 (Kept.trans h.kept hk (fun b hb hb2 => by have := (h.fam.block (by omega) hb2).2; omega)) h.nB _ _, h.nB, (h.fam.app (by omega) hk hr hat').other h1' (by decide) hks, ⟨_, heap_set_same h1' _, by simp [h2], fun j b hb => ?_, fun b hb0 hb1 hb => ?_⟩, h.addr, h.nd⟩
  · by_cases e : j = k
    · subst e
      rw [ha] at hb; injection hb with hb; subst hb
      rw [Array.getElem?_setIfInBounds_self_of_lt (by omega), if_pos rfl]
    · have hne : b ≠ a := fun e2 => e ((List.getElem?_inj (List.getElem?_eq_some_iff.1 hb).1 h.nd).1 (by rw [hb, ha, e2]))
      have hbb := h.addr b (List.mem_of_getElem? hb)
      rw [Array.getElem?_setIfInBounds_ne (by omega)]
      show _ = some (if j + 1 = k + 1 then v else F (j + 1))
      rw [if_neg (by omega)]; exact h3 j b hb
  · have hne : b ≠ a := fun e2 => hb (by rw [e2]; exact List.mem_of_getElem? ha)
    rw [Array.getElem?_setIfInBounds_ne (by omega)]; exact h4 b hb0 hb1 hb
theorem SeesMem.made (h : SeesMem w W B ads F C) {a : Int} (h0 : 0 ≤ a) (h30 : a < 30000) (ha : a ∉ ads) {v : Value} {c : List Int} (hk : Keeps W W') (hr : W'.ownsRow w.heap.size 3 1 v c.length (ints c)) (hat : ∀ b, v.ownBlock = some b → W.heap.size ≤ b) :
    SeesMem w (W'.setCell ⟨B, a.toNat, none⟩ v) B (ads ++ [a]) (fun j => if j = ads.length + 1 then v else F j) (fun j => if j = ads.length + 1 then c else C j) := by
  obtain ⟨cur, h1, h2, h3, h4⟩ := h.great
  have h1' : W'.heap[B]? = some (.cells cur 35 (0, 0)) := hk.at h1 (fun x => x)
  have hks : Kept (fun b => b = B) W' (W'.setCell ⟨B, a.toNat, none⟩ v) := (Kept.refl (fun b => b = B) W').one1 _ v
  have hnd : (ads ++ [a]).Nodup := by
    rw [List.nodup_append]
    exact ⟨h.nd, by simp, fun x hx y hy e => by rw [List.mem_singleton] at hy; subst hy; subst e; exact ha hx⟩
  refine ⟨Kept.one0 (Keeps.trans h.kept hk) h.nB _ _, h.nB, ?_, ⟨_, heap_set_same h1' _, by simp [h2], fun j b hb => ?_, fun b hb0 hb1 hb => ?_⟩, fun b hb => ?_, hnd⟩
  · rw [List.length_append]
    exact (h.fam.more hk hr hat).other h1' (by decide) hks
  · show _ = some (if j + 1 = ads.length + 1 then v else F (j + 1))
    by_cases hj : j < ads.length
    · rw [List.getElem?_append_left hj] at hb
      have hbb := h.addr b (List.mem_of_getElem? hb)
      have hne : b ≠ a := fun e => ha (by rw [← e]; exact List.mem_of_getElem? hb)
      rw [Array.getElem?_setIfInBounds_ne (by omega), if_neg (by omega)]; exact h3 j b hb
    · have hjl := (List.getElem?_eq_some_iff.1 hb).1
      rw [List.length_append] at hjl
      have : j = ads.length := by simp at hjl; omega
      subst this
      simp at hb
      subst hb
      rw [Array.getElem?_setIfInBounds_self_of_lt (by omega), if_pos rfl]
  · rw [List.mem_append, List.mem_singleton] at hb
    have hne : b ≠ a := fun e => hb (.inr e)
    rw [Array.getElem?_setIfInBounds_ne (by omega)]
    exact h4 b hb0 hb1 (fun hx => hb (.inl hx))
  · rcases List.mem_append.1 hb with hb | hb
    · exact h.addr b hb
    · rw [List.mem_singleton] at hb; subst hb; exact ⟨h0, h30⟩
theorem SeesMem.first (h : SeesMem w W B ads F C) {a : Int} (h0 : 0 ≤ a) (h30 : a < 30000) (ha : a ∉ ads) : SeesMem w W B (ads ++ [a]) (fun j => if j = ads.length + 1 then .slice none 0 0 else F j) (fun j => if j = ads.length + 1 then [] else C j) := by
  obtain ⟨cur, h1, h2, h3, h4⟩ := h.great
  have hnd : (ads ++ [a]).Nodup := by
    rw [List.nodup_append]
    exact ⟨h.nd, by simp, fun x hx y hy e => by rw [List.mem_singleton] at hy; subst hy; subst e; exact ha hx⟩
  refine ⟨h.kept, h.nB, ?_, ⟨cur, h1, h2, fun j b hb => ?_, fun b hb0 hb1 hb => ?_⟩, fun b hb => ?_, hnd⟩
  · rw [List.length_append]
    exact h.fam.more (Keeps.refl _) (World.ownsRow_nil _ _ _ _) (fun b hb => by simp [Value.ownBlock] at hb)
  · show _ = some (if j + 1 = ads.length + 1 then _ else F (j + 1))
    by_cases hj : j < ads.length
    · rw [List.getElem?_append_left hj] at hb
      rw [if_neg (by omega)]; exact h3 j b hb
    · have hjl := (List.getElem?_eq_some_iff.1 hb).1
      rw [List.length_append] at hjl
      have : j = ads.length := by simp at hjl; omega
      subst this
      simp at hb
      subst hb
      rw [if_pos rfl]; exact h4 _ h0 h30 ha
  · exact h4 b hb0 hb1 (fun hx => hb (List.mem_append.2 (.inl hx)))
  · rcases List.mem_append.1 hb with hb | hb
    · exact h.addr b hb
    · rw [List.mem_singleton] at hb; subst hb; exact ⟨h0, h30⟩
end
end Go.Proofs.YtbhiaeciiphelaaGreatDoor
namespace Go.Proofs.YtbhiaeciiphelaaGreatDoor
open Go.RowKit
theorem info35r : (Tryz.prog.info? 35).map (fun i => (i.zero, i.size, i.bytes)) = some (some (.slice none 0 0), 1, 24) := by kernel_rfl
theorem under59r : Tryz.prog.underlying 59 = some (.slice 35) := by kernel_rfl
theorem hold {p : Prop} (h : Hid p) : p := h.out
end Go.Proofs.YtbhiaeciiphelaaGreatDoor
namespace Go.Proofs.YtbhiaeciiphelaaGreatDoor
open Go.RowKit
def ERel (w : World) (evs : List Ev) (B i : Nat) (ov : Value) (W : World) : Prop :=
  ∃ (s : St) (st : List Nat) (wr : List Int) (V : List (List Nat)) (F : Nat → Value) (C : Nat → List Int), St.start.run 0 (evs.take i) = some s ∧ AtM evs i s st wr ∧ InB s ∧ IsVis s.sps V ∧ (∀ k, (V.getD k []).length ≤ i) ∧
    SeesMem w W B (s.sps.map (·.addr)) F C ∧ F 0 = ov ∧ C 0 = opens s st ∧ ∀ k, k < s.sps.length → C (k + 1) = (V.getD k []).map (addrAt evs)
theorem opens_top {s : St} {k : Nat} {l : List Nat} {p : Sp} (hp : s.sps[k]? = some p) : opens s (k :: l) = opens s l ++ [p.addr] := by simp [opens, addrOf, hp]
theorem row_last {w : World} {base g n cap : Nat} {l : List Int} {x : Int} (h : w.ownsRow base 3 1 (.slice (some ⟨g, 0, none⟩) (n + 1) cap) (n + 1) (ints (l ++ [x]))) (hl : l.length = n) : w.cell? ⟨g, n, none⟩ = some (.int .i64 x) ∧ g < w.heap.size ∧ n + 1 ≤ cap ∧ cap ≤ maxLen := by
  rcases h.2 with ⟨h0, _⟩ | ⟨_, _, _, hv, _, hg, hc, hm, _⟩
  · cases h0
  · cases hv
    refine ⟨?_, heap_lt hg, hc, hm⟩
    have h3 := h.cells (g := g) rfl n (.int .i64 x) (by simp [ints, ← hl])
    by_cases e : n = 0
    · subst e; simpa [Addr.add] using h3
    · simpa [Addr.add, e] using h3
theorem SeesMem.opn2 {w W W' : World} {B : Nat} {ads : List Int} {F : Nat → Value} {C : Nat → List Int} (h : SeesMem w W B ads F C) {v v0 : Value} {c0 : List Int} {x : Int} {o : Obj} (h0 : F 0 = v0) (hc : C 0 = c0) (hg : (W.alloc o).grownBy W' v0.ownBlock) (hr : W'.ownsRow w.heap.size 3 1 v (c0.length + 1) (ints c0 ++ [.int .i64 x]))
    (hat : v.ownBlock = v0.ownBlock ∨ v.ownBlock = some (W.alloc o).heap.size) : SeesMem w W' B ads (fun k => if k = 0 then v else F k) (fun k => if k = 0 then c0 ++ [x] else C k) := by
  subst h0 hc
  exact h.opn hg hr hat
theorem SeesMem.row0 {w W : World} {B : Nat} {ads : List Int} {F : Nat → Value} {C : Nat → List Int} (h : SeesMem w W B ads F C) {v0 : Value} {c0 : List Int} (h0 : F 0 = v0) (hc : C 0 = c0) : W.ownsRow w.heap.size 3 1 v0 c0.length (ints c0) := by
  subst h0 hc
  exact h.fam.rows 0 (Nat.succ_pos _)
theorem not_in {sps : List Sp} {a : Int} (h : sps.any (fun p => p.addr == a) = false) : a ∉ sps.map (·.addr) := by
  intro hm
  obtain ⟨p, hp, he⟩ := List.mem_map.1 hm
  rw [List.any_eq_false] at h
  exact h p hp (by simp [he])
def SeesPost (w : World) (n : Nat) (evs : List Ev) (f : St) (e : Ending) (w' : World) : Prop := ∃ (B : Nat) (F : Nat → Value) (C : Nat → List Int) (V : List (List Nat)), e = .returned (.slice (some ⟨B, 0, none⟩) 30000 30000) ∧ InB f ∧ IsVis f.sps V ∧ (∀ k, (V.getD k []).length ≤ n) ∧
  SeesMem w w' B (f.sps.map (·.addr)) F C ∧ ∀ k, k < f.sps.length → C (k + 1) = (V.getD k []).map (addrAt evs)
set_option maxHeartbeats 8000000 in
set_option maxRecDepth 100000 in
theorem sees_of (w : World) (a : Option Addr) (n c : Nat) (evs : List Ev) (h : EvIn w a n evs) (f : St) (hro : readOf evs = some f) :
    Calls Tryz.prog 66 #[.slice a n c] w (SeesPost w n evs f) := by
  have HI := Lib.hid h
  have HO := Lib.hid hro
  have hfew := h.few
  obtain ⟨big, hbig⟩ : ∃ big, big = madeCells #[.slice none 0 0] 30000 := ⟨_, rfl⟩
  have hmk : ∀ w : World, (Instr.makeSlice 59 (.int .i64 30000) (.int .i64 30000)).run Tryz.prog w = .ok (.slice (some ⟨w.heap.size, 0, none⟩) 30000 30000) (w.alloc (.cells big 35)) := by
    intro w
    rw [hbig]
    exact run_make_row' 59 35 (.slice none 0 0) 24 under59r info35r rfl .i64 .i64 30000 (by decide) (by decide) w
  have Hbig := Lib.hid hbig
  obtain ⟨i3, hi3, hz3, hs3, hb3⟩ := info_parts info3
  clear h hbig hro
  go_enter Tryz.func66, Tryz.ntmps66
  go_wp2_with fail
  obtain ⟨B, hB⟩ : ∃ b, b = w.heap.size := ⟨_, rfl⟩
  rw [← hB]
  have HB := Lib.hid hB
  clear hB hmk
  go_loopw [4, 5] (fun ov q W => ∃ i : Nat, i ≤ n ∧ q = .int .i64 i ∧ ERel w evs B i ov W) (fun _ q _ => n - (intOf q).toNat)
  case atStart =>
    refine ⟨0, Nat.zero_le _, rfl, St.start, [], [], [], fun _ => .slice none 0 0, fun _ => [], rfl, .start evs, InB.start, .start, fun k => by simp, ⟨Keeps.alloc _ _, by rw [HB.out]; exact Nat.le_refl _, ⟨fun k _ => World.ownsRow_nil _ _ _ _, fun j k b _ _ _ hb => by simp [Value.ownBlock] at hb⟩, ⟨big, by rw [HB.out]; exact heap_alloc_at _ _, by rw [Hbig.out]; exact size_madeCells _ _, fun k a ha => by simp [St.start] at ha, fun a h0 h1 _ => ?_⟩, fun a ha => by simp [St.start] at ha, by simp [St.start]⟩, rfl, rfl, fun k hk => by simp [St.start] at hk⟩
    rw [Hbig.out]
    simp [madeCells, h1, Nat.mod_one]
  case round =>
    obtain ⟨i, hi, rfl, s, st, wr0, V, F, C, hr, ha, hin, hv, hvl, hmm, hF0, hC0, hC⟩ := hrel
    have HR := Lib.hid hr
    have HA := Lib.hid ha
    have HIn := Lib.hid hin
    have HV := Lib.hid hv
    have HVl := Lib.hid hvl
    have HMM := Lib.hid hmm
    have HC0 := Lib.hid hC0
    have HC := Lib.hid hC
    subst hF0
    clear hr ha hin hv hvl hmm hC0 hC
    by_cases hik : i < n
    · obtain ⟨e, he⟩ : ∃ e, evs[i]? = some e := ⟨evs[i]'(by rw [← HI.out.len]; omega), List.getElem?_eq_getElem _⟩
      obtain ⟨eb, eo, rfl, hlt, c0, c1, c2, c3, c4, c5, c6, c7⟩ := (HI.out.ev.keeps HMM.out.kept).cells he
      have HE := Lib.hid he
      have k1 : (i : Int) < n := by omega
      have k2 : (0 : Int) ≤ i := by omega
      have l4 : B < wr.heap.size := HMM.out.lt
      clear he
      have hstep : ∃ s2, s.step i e = some s2 := by
        cases hs2 : s.step i e with
        | some s2 => exact ⟨s2, rfl⟩
        | none => have := read_stop HR.out HE.out hs2; rw [HO.out] at this; cases this
      obtain ⟨s2, hs2⟩ := hstep
      have hA2 := Lib.hid (HA.out.step HE.out hs2)
      have hR2 := Lib.hid ((St.run_take _ _ _ _ _ HR.out HE.out).trans hs2)
      have hIn2 := Lib.hid (HIn.out.step hs2)
      have hadr := form_addr (step_okform hs2)
      have hsl := HA.out.stlen
      have HMa := Lib.hid (fun (o : Obj) => HMM.out.keeps (Keeps.alloc wr o))
      rcases step_cases hs2 with ⟨q1, hany, hse⟩ | ⟨k, p, htop, hp, q2, hse⟩ | ⟨k, p, htop, hp, q3, hpa, hse⟩
      · rw [q1] at c0
        obtain ⟨z1, _, _, _⟩ := opens_make HA.out hs2 q1
        have hna := not_in hany
        have hads : s2.sps.map (·.addr) = s.sps.map (·.addr) ++ [e.addr] := by rw [hse]; simp
        have hlen2 : s2.sps.length = s.sps.length + 1 := by rw [hse]; simp
        have hadl : (s.sps.map (·.addr)).length = s.sps.length := by simp
        have hvlt := HV.out.lt (fun k p hp => (HA.out.rds k p hp).2) HA.out.ok.outer
        have hvis : IsVis s2.sps (V ++ [match s.top with | some j => V.getD j [] | none => []]) := by rw [hse]; exact HV.out.make (q := ⟨i, 0, s.top, e.addr, []⟩) rfl HA.out.ok.outer HA.out.ok.top hvlt
        have hVl := HV.out.len
        have HNa := Lib.hid hna
        have HAd := Lib.hid hads
        have HL2 := Lib.hid hlen2
        have HAl := Lib.hid hadl
        have HVn := Lib.hid hVl
        have Z1 := Lib.hid z1
        have ha0 := hadr.1
        have ha1 := hadr.2
        cases htop : s.top with
        | none =>
          rw [htop] at hvis
          have hst : st = [] := by
            have h9 := HA.out.stack
            rw [htop] at h9
            cases h9; rfl
          have hc0 : C 0 = [] := by rw [HC0.out, hst]; rfl
          obtain ⟨p0, cp0, hF0⟩ := row_slice (HMM.out.fam.rows 0 (Nat.succ_pos _))
          rw [hc0] at hF0
          have HV2 := Lib.hid hvis
          have HF0 := Lib.hid hF0
          have HCe := Lib.hid hc0
          rw [HF0.out]
          have HRow := Lib.hid (HMM.out.row0 hF0 hc0)
          clear hs2 hany hse z1 hna hads hlen2 hadl hvlt hvis hVl hadr htop hst hc0 hF0
          go_wp2_with (at_builtin; (refine wpList_append_own_at _ rfl (.tmp 46) (.tmp 49) 35 rfl w.heap.size 3 i3 (.int .i64 0) 1 8 under35 hi3 hz3 hs3 hb3 rfl (by decide) (.slice p0 0 cp0) 0 [] rfl ((HRow.out.alloc _).alloc _) ⟨_, 0, none⟩ 1 1 [.int .i64 e.addr] rfl rfl (by intro j u hj; have h9 := cell_one_new (wr.alloc (.cells #[.int .i64 1, .int .i64 e.site, .int .i64 e.addr, .slice e.args e.argn e.argc, .int .i64 e.vk, .int .i64 e.vn, .string e.vs, .slice e.va e.van e.vac] 98)) (.int .i64 e.addr) 3 j u hj; rw [World.size_alloc] at h9; exact h9) (by simp [Value.oneCell']) (by unfold maxLen; omega) (by omega) (by have h9 := HMM.out.kept.size; rw [World.size_alloc, World.size_alloc]; omega) ?_; intro v5 w5 hown5 hgrow5 hnil5 hat5; have HM5 := Lib.hid (((HMa.out (.cells #[.int .i64 1, .int .i64 e.site, .int .i64 e.addr, .slice e.args e.argn e.argc, .int .i64 e.vk, .int .i64 e.vn, .string e.vs, .slice e.va e.van e.vac] 98)).opn2 (x := e.addr) HF0.out HCe.out hgrow5 hown5 hat5).first ha0 ha1 HNa.out); clear hown5 hgrow5 hnil5 hat5))
          go_roundw
          case rel =>
            refine ⟨i + 1, by omega, by go_num, s2, _, _, V ++ [[]], (fun j => if j = (s.sps.map (·.addr)).length + 1 then .slice none 0 0 else if j = 0 then v5 else F j), (fun j => if j = (s.sps.map (·.addr)).length + 1 then [] else if j = 0 then [] ++ [e.addr] else C j), hR2.out, hA2.out, hIn2.out, HV2.out, fun j => ?_, by rw [HAd.out]; exact HM5.out, ?_, ?_, fun j hj => ?_⟩
            · by_cases e1 : j < V.length
              · rw [List.getD_eq_getElem?_getD, List.getElem?_append_left e1, ← List.getD_eq_getElem?_getD]; exact Nat.le_succ_of_le (HVl.out j)
              · rw [List.getD_eq_getElem?_getD, List.getElem?_append_right (by omega)]
                cases (j - V.length) <;> simp
            · show (if 0 = (s.sps.map (·.addr)).length + 1 then _ else if 0 = 0 then v5 else F 0) = _
              rw [if_neg (by omega), if_pos rfl]
            · show (if 0 = (s.sps.map (·.addr)).length + 1 then _ else if 0 = 0 then _ else C 0) = _
              rw [if_neg (by omega), if_pos rfl, Z1.out, ← HC0.out, HCe.out]
            · show (if j + 1 = (s.sps.map (·.addr)).length + 1 then _ else if j + 1 = 0 then _ else C (j + 1)) = _
              rw [HAl.out]
              by_cases e1 : j < s.sps.length
              · rw [if_neg (by omega), if_neg (by omega), HC.out j e1, List.getD_eq_getElem?_getD, List.getD_eq_getElem?_getD, List.getElem?_append_left (by rw [HVn.out]; exact e1)]
              · have : j = s.sps.length := by have := HL2.out; omega
                subst this
                rw [if_pos rfl, List.getD_eq_getElem?_getD, List.getElem?_append_right (by rw [HVn.out]; exact Nat.le_refl _), HVn.out, Nat.sub_self]
                rfl
          case measure => simp [intOf] <;> omega
        | some k =>
          rw [htop] at hvis
          obtain ⟨p, hp⟩ : ∃ p, s.sps[k]? = some p := ⟨s.sps[k]'(HA.out.ok.top k htop), List.getElem?_eq_getElem _⟩
          obtain ⟨l, hl, hkl⟩ := HA.out.head htop hp
          have hop : C 0 = opens s l ++ [p.addr] := by rw [HC0.out, hl, opens_top hp]
          obtain ⟨r, hr⟩ : ∃ r, r = (opens s l).length := ⟨_, rfl⟩
          have hc0 : (C 0).length = r + 1 := by rw [hop, List.length_append, ← hr]; rfl
          have hrow0 := HMM.out.fam.rows 0 (Nat.succ_pos _)
          rw [hc0] at hrow0
          obtain ⟨g0, cap0, hF0⟩ := row_succ hrow0
          rw [hF0, hop] at hrow0
          obtain ⟨x0, x1, x2, x3⟩ := row_last hrow0 hr.symm
          have hka : (s.sps.map (·.addr))[k]? = some p.addr := by rw [List.getElem?_map, hp]; rfl
          obtain ⟨pa0, pa1⟩ := HIn.out k p hp
          have hkl2 : k < (s.sps.map (·.addr)).length := (List.getElem?_eq_some_iff.1 hka).1
          have hkls : k < s.sps.length := (List.getElem?_eq_some_iff.1 hp).1
          have hCk := HC.out k hkls
          have hcl : (C (k + 1)).length ≤ n := by rw [hCk, List.length_map]; have := HVl.out k; omega
          have hrn : r + 1 ≤ n := by rw [hr, opens_len]; rw [hl] at hsl; simp at hsl; omega
          have HV2 := Lib.hid hvis
          have HF0 := Lib.hid hF0
          have HCe := Lib.hid hc0
          have HKa := Lib.hid hka
          have HKl := Lib.hid hkl2
          have HCk := Lib.hid hCk
          have w1' : IntKind.i64.wrap (r : Int) = r := by rw [IntKind.wrap_i64]; omega
          have w2' : (0 : Int) ≤ r := by omega
          have w3' : (r : Int) < r + 1 := by omega
          have w4' : (0 : Int) < r + 1 := by omega
          have w6' : cap0 ≤ 9223372036854775807 := x3
          rw [HF0.out]
          have HM1 := Lib.hid (HMa.out (.cells #[.int .i64 1, .int .i64 e.site, .int .i64 e.addr, .slice e.args e.argn e.argc, .int .i64 e.vk, .int .i64 e.vn, .string e.vs, .slice e.va e.van e.vac] 98))
          have hev := heap_alloc_at wr (.cells #[.int .i64 1, .int .i64 e.site, .int .i64 e.addr, .slice e.args e.argn e.argc, .int .i64 e.vk, .int .i64 e.vn, .string e.vs, .slice e.va e.van e.vac] 98)
          have hsz : wr.heap.size < (wr.alloc (.cells #[.int .i64 1, .int .i64 e.site, .int .i64 e.addr, .slice e.args e.argn e.argc, .int .i64 e.vk, .int .i64 e.vn, .string e.vs, .slice e.va e.van e.vac] 98)).heap.size := by rw [World.size_alloc]; exact Nat.lt_succ_self _
          have hx0 := cell_keeps (Keeps.alloc wr (.cells #[.int .i64 1, .int .i64 e.site, .int .i64 e.addr, .slice e.args e.argn e.argc, .int .i64 e.vk, .int .i64 e.vn, .string e.vs, .slice e.va e.van e.vac] 98)) x0
          clear hs2 hany htop hp hse hl hkl z1 hna hads hlen2 hadl hvlt hvis hVl hr hc0 hrow0 hadr hF0 hop hka hCk hkl2 hkls x3
          go_wp2_with fail
          generalize wr.alloc (.cells #[.int .i64 1, .int .i64 e.site, .int .i64 e.addr, .slice e.args e.argn e.argc, .int .i64 e.vk, .int .i64 e.vn, .string e.vs, .slice e.va e.van e.vac] 98) = W2 at HM1 hev hsz hx0 ⊢
          generalize wr.heap.size = E at hev hsz l4 x1 ⊢
          have y1 := HM1.out.cell HKa.out
          have y2 := HM1.out.free e.addr.toNat
          have y3 := HM1.out.bare ha0 ha1 HNa.out
          have y7 := HM1.out.lt
          have y8 : B ≠ W2.heap.size := Nat.ne_of_lt y7
          have y9 : B ≠ E := Nat.ne_of_lt l4
          have y5 : g0 < W2.heap.size := by omega
          have y6 := cell_of_block hev 2
          simp at y6
          have key : ∀ (p5 : Option Addr) (c5 : Nat) (w5 : World), w5.ownsRow w.heap.size 3 1 (.slice p5 (C (k + 1)).length c5) (C (k + 1)).length (ints (C (k + 1))) → (W2.alloc (.cells #[] 3)).drew.grownBy w5 (some W2.heap.size) →
              ((Value.slice p5 (C (k + 1)).length c5).ownBlock = some W2.heap.size ∨ (Value.slice p5 (C (k + 1)).length c5).ownBlock = some (W2.heap.size + 1)) →
              SeesMem w (w5.setCell ⟨B, e.addr.toNat, none⟩ (.slice p5 (C (k + 1)).length c5)) B (s.sps.map (·.addr) ++ [e.addr]) (fun j => if j = (s.sps.map (·.addr)).length + 1 then .slice p5 (C (k + 1)).length c5 else F j) (fun j => if j = (s.sps.map (·.addr)).length + 1 then C (k + 1) else C j) ∧
              (w5.setCell ⟨B, e.addr.toNat, none⟩ (.slice p5 (C (k + 1)).length c5)).ownsRow w.heap.size 3 1 (.slice (some ⟨g0, 0, none⟩) (r + 1) cap0) (r + 1) (ints (C 0)) ∧ w.heap.size ≤ (w5.setCell ⟨B, e.addr.toNat, none⟩ (.slice p5 (C (k + 1)).length c5)).heap.size := by
            intro p5 c5 w5 hown hgrow hat
            have hkk : Keeps W2 w5 := ((Kept.refl _ W2).alloc (.cells #[] 3)).grown (row := some W2.heap.size) ⟨hgrow.os, hgrow.tape, hgrow.output, hgrow.size, hgrow.block⟩ (fun b hb hb2 => by injection hb with hb; omega)
            have hM8 := HM1.out.made ha0 ha1 HNa.out hkk hown (fun b hb => by rcases hat with h | h <;> (rw [hb] at h; injection h with h; omega))
            refine ⟨hM8, ?_, hM8.kept.size⟩
            have h9 := hM8.row0 (v0 := .slice (some ⟨g0, 0, none⟩) (r + 1) cap0) (c0 := C 0) (by rw [if_neg (by omega)]; exact HF0.out) (by rw [if_neg (by omega)])
            rw [HCe.out] at h9
            exact h9
          have KEY := Lib.hid key
          clear c0 c1 c2 c3 c4 c5 c6 c7 hev hsl key x0 x1
          go_region_law
            ((refine step_append_row (by rfl) _ _ _ (by rfl) w.heap.size w.heap.size 3 i3 (.int .i64 0) 8 under35 hi3 hz3 hs3 hb3 rfl (.slice (some ⟨W2.heap.size, 0, none⟩) 0 0) 0 [] (by rfl) ((World.ownsRow_lit W2 #[] 0 (by have h9 := HM1.out.kept.size; omega) (Nat.zero_le _) rfl).drew) (F (k + 1)) (C (k + 1)).length (ints (C (k + 1))) (by rfl) (((HM1.out.fam.rows (k + 1) (Nat.succ_lt_succ HKl.out)).alloc _).drew) (by simp [ints, Value.oneCell']) (by unfold maxLen; omega) (by omega) (by have h9 := HM1.out.kept.size; simp; omega) ?_; intro v5 w5 hown hgrow hat; rw [Nat.zero_add, List.nil_append] at hown; obtain ⟨p5, c5, rfl⟩ := row_slice hown; have hgr := hgrow; have ht : (Value.slice p5 (C (k + 1)).length c5).ownBlock = some W2.heap.size ∨ (Value.slice p5 (C (k + 1)).length c5).ownBlock = some (W2.heap.size + 1) := (by rcases hat with h | h; exact .inl h; exact .inr (by rw [h]; simp)); have yc : w5.cell? ⟨B, e.addr.toNat, none⟩ = some (.slice none 0 0) := (by rw [hgrow.cell_far _ (by simp <;> omega) (by simp [Value.ownBlock]; omega)] <;> simp [World.cell?_alloc_some, y3]); have ye : w5.cell? ⟨E, 2, none⟩ = some (.int .i64 e.addr) := (by rw [hgrow.cell_far _ (by simp <;> omega) (by simp [Value.ownBlock]; omega)] <;> simp [World.cell?_alloc_some, y6]); have yf : w5.frozen? ⟨B, e.addr.toNat, none⟩ = false := (by rw [hgrow.frozen_far _ (by simp <;> omega) (by simp [Value.ownBlock]; omega)] <;> simp [World.frozen?_alloc_old, y2, y8]); have HK5 := Lib.hid (KEY.out p5 c5 w5 hown hgr ht); clear hown hgrow hat hgr ht))
          all_goals
            go_wp2_with (at_builtin; (refine wpList_append_own_at _ rfl (.tmp 46) (.tmp 49) 35 rfl w.heap.size 3 i3 (.int .i64 0) 1 8 under35 hi3 hz3 hs3 hb3 rfl (by decide) (.slice (some ⟨g0, 0, none⟩) (r + 1) cap0) (r + 1) (ints (C 0)) rfl (HK5.out.2.1.alloc _) ⟨_, 0, none⟩ 1 1 [.int .i64 e.addr] rfl rfl (by intro j u hj; have h9 := cell_one_new (w5.setCell ⟨B, e.addr.toNat, none⟩ (.slice p5 (C (k + 1)).length c5)) (.int .i64 e.addr) 3 j u hj; simpa [World.setCell] using h9) (by simp [Value.oneCell']) (by unfold maxLen; omega) (by omega) (by have h9 := HK5.out.2.2; rw [World.size_alloc]; exact Nat.le_succ_of_le h9) ?_; intro v7 w7 hown7 hgrow7 hnil7 hat7; have HM7 := Lib.hid (HK5.out.1.opn2 (v0 := .slice (some ⟨g0, 0, none⟩) (r + 1) cap0) (c0 := C 0) (x := e.addr) (by rw [if_neg (by omega)]; exact HF0.out) (by rw [if_neg (by omega)]) hgrow7 (by rw [HCe.out]; exact hown7) hat7); clear hown7 hgrow7 hnil7 hat7))
            go_roundw
            case rel =>
              refine ⟨i + 1, by omega, by go_num, s2, _, _, V ++ [V.getD k []], (fun j => if j = 0 then v7 else if j = (s.sps.map (·.addr)).length + 1 then .slice p5 (C (k + 1)).length c5 else F j), (fun j => if j = 0 then C 0 ++ [e.addr] else if j = (s.sps.map (·.addr)).length + 1 then C (k + 1) else C j), hR2.out, hA2.out, hIn2.out, HV2.out, fun j => ?_, by rw [HAd.out]; exact HM7.out, ?_, ?_, fun j hj => ?_⟩
              · by_cases e1 : j < V.length
                · rw [List.getD_eq_getElem?_getD, List.getElem?_append_left e1, ← List.getD_eq_getElem?_getD]; exact Nat.le_succ_of_le (HVl.out j)
                · rw [List.getD_eq_getElem?_getD, List.getElem?_append_right (by omega)]
                  cases (j - V.length) with
                  | zero => exact Nat.le_succ_of_le (HVl.out k)
                  | succ m => simp
              · show (if 0 = 0 then v7 else _) = _
                rw [if_pos rfl]
              · show (if 0 = 0 then C 0 ++ [e.addr] else _) = _
                rw [if_pos rfl, Z1.out, HC0.out]
              · show (if j + 1 = 0 then _ else if j + 1 = (s.sps.map (·.addr)).length + 1 then C (k + 1) else C (j + 1)) = _
                rw [HAl.out, if_neg (by omega)]
                by_cases e1 : j < s.sps.length
                · rw [if_neg (by omega), HC.out j e1, List.getD_eq_getElem?_getD, List.getD_eq_getElem?_getD, List.getElem?_append_left (by rw [HVn.out]; exact e1)]
                · have : j = s.sps.length := by have := HL2.out; omega
                  subst this
                  rw [if_pos rfl, List.getD_eq_getElem?_getD, List.getElem?_append_right (by rw [HVn.out]; exact Nat.le_refl _), HVn.out, Nat.sub_self, HCk.out]
                  rfl
            case measure => simp [intOf] <;> omega
      · rw [q2] at c0
        obtain ⟨l, hl, hkl⟩ := HA.out.head htop hp
        obtain ⟨_, _, z1, _, _, z4, _, _⟩ := opens_read HA.out HE.out hs2 q2
        have hop : C 0 = opens s l ++ [p.addr] := by rw [HC0.out, hl, opens_top hp]
        obtain ⟨r, hr⟩ : ∃ r, r = (opens s l).length := ⟨_, rfl⟩
        have hc0 : (C 0).length = r + 1 := by rw [hop, List.length_append, ← hr]; rfl
        have hrow0 := HMM.out.fam.rows 0 (Nat.succ_pos _)
        rw [hc0] at hrow0
        obtain ⟨g0, cap0, hF0⟩ := row_succ hrow0
        rw [hF0, hop] at hrow0
        obtain ⟨x0, x1, x2, x3⟩ := row_last hrow0 hr.symm
        have hka : (s.sps.map (·.addr))[k]? = some p.addr := by rw [List.getElem?_map, hp]; rfl
        obtain ⟨pa0, pa1⟩ := HIn.out k p hp
        have hkl2 : k < (s.sps.map (·.addr)).length := (List.getElem?_eq_some_iff.1 hka).1
        have hkls : k < s.sps.length := (List.getElem?_eq_some_iff.1 hp).1
        have hCk := HC.out k hkls
        have hcl : (C (k + 1)).length ≤ n := by rw [hCk, List.length_map]; have := HVl.out k; omega
        have hads : s2.sps.map (·.addr) = s.sps.map (·.addr) := by rw [hse]; exact map_set_same _ hp rfl
        have hlen2 : s2.sps.length = s.sps.length := by rw [hse]; simp
        have hvis : IsVis s2.sps (V.set k (V.getD k [] ++ [i])) := by rw [hse]; exact HV.out.read hp (fun j q hq => Nat.le_of_lt (HA.out.ok.frm j q hq).1) HA.out.ok.outer
        have hrn : r + 1 ≤ n := by rw [hr, opens_len]; rw [hl] at hsl; simp at hsl; omega
        have hkV : k < V.length := by rw [HV.out.len]; exact hkls
        have HF0 := Lib.hid hF0
        have HAd := Lib.hid hads
        have HL2 := Lib.hid hlen2
        have HV2 := Lib.hid hvis
        have Z1 := Lib.hid z1
        have HCk := Lib.hid hCk
        have HKa := Lib.hid hka
        have HKl := Lib.hid hkl2
        have HKV := Lib.hid hkV
        have w1' : IntKind.i64.wrap (r : Int) = r := by rw [IntKind.wrap_i64]; omega
        have w2' : (0 : Int) ≤ r := by omega
        have w3' : (r : Int) < r + 1 := by omega
        have w6' : cap0 ≤ 9223372036854775807 := x3
        rw [HF0.out]
        have HM1 := Lib.hid (HMa.out (.cells #[.int .i64 2, .int .i64 e.site, .int .i64 e.addr, .slice e.args e.argn e.argc, .int .i64 e.vk, .int .i64 e.vn, .string e.vs, .slice e.va e.van e.vac] 98))
        have hev := heap_alloc_at wr (.cells #[.int .i64 2, .int .i64 e.site, .int .i64 e.addr, .slice e.args e.argn e.argc, .int .i64 e.vk, .int .i64 e.vn, .string e.vs, .slice e.va e.van e.vac] 98)
        have hsz : wr.heap.size < (wr.alloc (.cells #[.int .i64 2, .int .i64 e.site, .int .i64 e.addr, .slice e.args e.argn e.argc, .int .i64 e.vk, .int .i64 e.vn, .string e.vs, .slice e.va e.van e.vac] 98)).heap.size := by rw [World.size_alloc]; exact Nat.lt_succ_self _
        clear hs2 htop hp hse hl hkl z1 z4 hr hc0 hrow0 hads hlen2 hvis hadr hF0 hop hka hCk hkl2 hkls hkV x3
        go_wp2_with fail
        generalize wr.alloc (.cells #[.int .i64 2, .int .i64 e.site, .int .i64 e.addr, .slice e.args e.argn e.argc, .int .i64 e.vk, .int .i64 e.vn, .string e.vs, .slice e.va e.van e.vac] 98) = W2 at HM1 hev hsz ⊢
        generalize wr.heap.size = E at hev hsz l4 x1 ⊢
        have y1 := HM1.out.cell HKa.out
        have y2 := HM1.out.free p.addr.toNat
        have y7 := HM1.out.lt
        have y8 : B ≠ W2.heap.size := Nat.ne_of_lt y7
        have y6 := cell_of_block hev 2
        simp at y6
        have HNe := Lib.hid (show (F (k + 1)).ownBlock ≠ some B from fun h => HM1.out.ne (Nat.succ_lt_succ HKl.out) h rfl)
        have key : ∀ (g5 cap5 : Nat) (w5 : World), w5.ownsRow w.heap.size 3 1 (.slice (some ⟨g5, 0, none⟩) ((C (k + 1)).length + 1) cap5) ((C (k + 1)).length + 1) (ints (C (k + 1)) ++ [.int .i64 e.addr]) →
            (W2.alloc (.cells #[.int .i64 e.addr] 3)).drew.grownBy w5 (F (k + 1)).ownBlock → ((F (k + 1)).ownBlock = some g5 ∨ g5 = W2.heap.size + 1) → ERel w evs B (i + 1) (.slice (some ⟨g0, 0, none⟩) (r + 1) cap0) (w5.setCell ⟨B, p.addr.toNat, none⟩ (.slice (some ⟨g5, 0, none⟩) ((C (k + 1)).length + 1) cap5)) := by
          intro g5 cap5 w5 hown hgrow hat
          have hM8 := HM1.out.seen HKa.out (W' := w5) (o := .cells #[.int .i64 e.addr] 3) ⟨hgrow.os, hgrow.tape, hgrow.output, hgrow.size, hgrow.block⟩ hown (by
            rcases hat with h | h
            · exact .inl h.symm
            · exact .inr (by rw [World.size_alloc, h]; rfl))
          have hVg : ∀ j, (V.set k (V.getD k [] ++ [i])).getD j [] = if j = k then V.getD k [] ++ [i] else V.getD j [] := by
            intro j
            by_cases e1 : j = k
            · subst e1
              rw [if_pos rfl, List.getD_eq_getElem?_getD, List.getElem?_set_self HKV.out]; rfl
            · rw [if_neg e1, List.getD_eq_getElem?_getD, List.getElem?_set_ne (fun x => e1 x.symm), ← List.getD_eq_getElem?_getD]
          refine ⟨s2, _, _, V.set k (V.getD k [] ++ [i]), (fun j => if j = k + 1 then .slice (some ⟨g5, 0, none⟩) ((C (k + 1)).length + 1) cap5 else F j), (fun j => if j = k + 1 then C (k + 1) ++ [e.addr] else C j), hR2.out, hA2.out, hIn2.out, HV2.out, fun j => ?_, by rw [HAd.out]; exact hM8, ?_, ?_, fun j hj => ?_⟩
          · rw [hVg]
            by_cases e1 : j = k
            · rw [if_pos e1, List.length_append]; exact Nat.add_le_add_right (HVl.out k) 1
            · rw [if_neg e1]; exact Nat.le_succ_of_le (HVl.out j)
          · show (if 0 = k + 1 then _ else F 0) = _
            rw [if_neg (by omega)]; exact HF0.out
          · show (if 0 = k + 1 then _ else C 0) = _
            rw [if_neg (by omega), Z1.out]; exact HC0.out
          · show (if j + 1 = k + 1 then _ else C (j + 1)) = _
            rw [hVg]
            by_cases e1 : j = k
            · subst e1
              rw [if_pos rfl, if_pos rfl, List.map_append, HCk.out]
              simp [addrAt, HE.out]
            · rw [if_neg (by omega), if_neg e1]
              exact HC.out j (by rw [← HL2.out]; exact hj)
        have KEY := Lib.hid key
        clear c0 c1 c2 c3 c4 c5 c6 c7 hev hsl key
        go_region_law
          ((refine step_append_lies _ (by rfl) _ _ _ (by rfl) w.heap.size 3 i3 (.int .i64 0) 1 8 under35 hi3 hz3 hs3 hb3 rfl (by decide) (F (k + 1)) (C (k + 1)).length (ints (C (k + 1))) (by rfl) (((HM1.out.fam.rows (k + 1) (Nat.succ_lt_succ HKl.out)).alloc _).drew) ⟨W2.heap.size, 0, none⟩ 1 1 [.int .i64 e.addr] (by rfl) (by rfl) (World.news_of_block (cs := #[.int .i64 e.addr]) (t := 3) (fr := (0, 0)) (heap_alloc_new W2 _)) (by simp [Value.oneCell']) (by omega) (by unfold maxLen; omega) (by omega) (by have h9 := HM1.out.kept.size; simp; omega) (W2.heap.size + 1) (by simp) ?_; intro g5 cap5 w5 hown hgrow hat hlt5; have yc : w5.cell? ⟨B, p.addr.toNat, none⟩ = some (F (k + 1)) := (by rw [hgrow.cell_far _ (by simp <;> omega) (Ne.symm HNe.out)] <;> simp [World.cell?_alloc_some, y1]); have yf : w5.frozen? ⟨B, p.addr.toNat, none⟩ = false := (by rw [hgrow.frozen_far _ (by simp <;> omega) (Ne.symm HNe.out)] <;> simp [World.frozen?_alloc_old, y2, y8])))
        all_goals
          go_wp2_with fail
          go_roundw
          case rel => exact ⟨i + 1, by omega, by go_num, KEY.out _ _ _ hown hgrow hat⟩
          case measure => simp [intOf] <;> omega
      · rw [q3] at c0
        obtain ⟨l, hl, hkl⟩ := HA.out.head htop hp
        obtain ⟨l1, a1, l2, a2, z1, z2, _, _, z5, z6⟩ := opens_write HA.out hs2 q3
        obtain ⟨r, hr⟩ : ∃ r, r = (stStep s e st).length := ⟨_, rfl⟩
        rw [← hr] at z6
        have hc0 : (C 0).length = r + 1 := by rw [HC0.out, opens_len, z6]
        have hrow0 := HMM.out.fam.rows 0 (Nat.succ_pos _)
        rw [hc0] at hrow0
        obtain ⟨g0, cap0, hF0⟩ := row_succ hrow0
        have hb0 := hrow0.2
        rw [hF0] at hb0
        obtain ⟨hk0, hk1⟩ : r + 1 ≤ cap0 ∧ cap0 ≤ maxLen := by
          rcases hb0 with ⟨h0, _⟩ | ⟨_, _, _, hv, _, _, h1, h2, _⟩
          · cases h0
          · cases hv; exact ⟨h1, h2⟩
        have hads : s2.sps.map (·.addr) = s.sps.map (·.addr) := by rw [hse]; exact map_set_same _ hp rfl
        have hlen2 : s2.sps.length = s.sps.length := by rw [hse]; simp
        have hvis : IsVis s2.sps V := by rw [hse]; exact HV.out.write hp
        have HF0 := Lib.hid hF0
        have HCl := Lib.hid hc0
        have HAd := Lib.hid hads
        have HL2 := Lib.hid hlen2
        have HV2 := Lib.hid hvis
        have Z1 := Lib.hid z1
        have Z2 := Lib.hid z2
        have Z6 := Lib.hid z6
        have w1' : IntKind.i64.wrap (r : Int) = r := by rw [IntKind.wrap_i64]; omega
        have w2' : (0 : Int) ≤ r := by omega
        have w3' : (r : Int) < r + 1 := by omega
        have w4' : (r : Int) ≤ cap0 := by omega
        have w6' : cap0 ≤ 9223372036854775807 := hk1
        rw [HF0.out]
        clear hs2 htop hp hse hl hkl z1 z2 z5 z6 hr hc0 hrow0 hb0 hk0 hk1 hads hlen2 hvis hadr hF0 hpa
        go_wp2_with fail
        go_roundw
        case rel =>
          refine ⟨i + 1, by omega, by go_num, s2, _, _, V, (fun k => if k = 0 then .slice (some ⟨g0, 0, none⟩) r cap0 else F k), (fun k => if k = 0 then (C 0).take r else C k), hR2.out, hA2.out, hIn2.out, HV2.out, fun k => Nat.le_succ_of_le (HVl.out k), by rw [HAd.out]; exact (HMM.out.shut HF0.out HCl.out).keeps (Keeps.alloc _ _), rfl, ?_, fun k hk => HC.out k (by rw [← HL2.out]; exact hk)⟩
          rw [Z2.out]
          show (C 0).take r = _
          rw [HC0.out, Z1.out, List.take_left' (by have h9 := congrArg List.length Z1.out; rw [opens_len, Z6.out] at h9; simp at h9; exact h9.symm)]
        case measure => simp [intOf] <;> omega
    · obtain rfl : i = n := by omega
      have hneg : ¬ (i : Int) < i := by omega
      go_wp2_with fail
      go_ret
      have hr2 := HR.out
      rw [HI.out.len, List.take_length] at hr2
      have hA := HA.out
      rw [HI.out.len] at hA
      obtain ⟨rfl, _⟩ := momEnd HO.out hr2 hA
      exact ⟨B, F, C, V, rfl, HIn.out, HV.out, HVl.out, HMM.out, HC.out⟩
end Go.Proofs.YtbhiaeciiphelaaGreatDoor
