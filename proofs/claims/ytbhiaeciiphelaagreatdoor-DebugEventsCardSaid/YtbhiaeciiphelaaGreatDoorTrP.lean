/-
  DERIVED. Events as a forest of nodes, in plain Lean: as a parser, and as a machine with a stack of open nodes. No condition.
-/
import Derived.Test.YtbhiaeciiphelaaGreatDoorTrA
import Derived.Test.YtbhiaeciiphelaaGreatDoorMomA
import Derived.Test.YtbhiaeciiphelaaGreatDoorTrF
import Derived.Laws.OwnMore
namespace Go.Proofs.YtbhiaeciiphelaaGreatDoor
def RV.none : RV := .mk 0 0 ⟨#[]⟩ []
structure ET where
  ev : Ev
  args : List RV
  val : RV
def mkNode (e : ET) (kids : List ND) (wrote : RV) : ND := .mk true e.ev.site e.ev.addr e.args RV.none wrote kids
def rdNode (e : ET) (kids : List ND) : ND := .mk false e.ev.site e.ev.addr [] e.val RV.none kids
def ND.isMod : ND → Bool
  | .mk m _ _ _ _ _ _ => m
def ND.kid : ND → List ND → ND
  | .mk m s a l v w _, k => .mk m s a l v w k
def ND.wrt : ND → RV → ND
  | .mk m s a l v _ k, w => .mk m s a l v w k
inductive Prs (ets : List ET) : Nat → List ND → Nat → Prop
  | stop {i : Nat} (h : ∀ e, ets[i]? = some e → e.ev.kind = 3) : Prs ets i [] i
  | make {i j k : Nat} {e w : ET} {kids sibs : List ND} (he : ets[i]? = some e) (h1 : e.ev.kind = 1) (hk : Prs ets (i + 1) kids j) (hw : ets[j]? = some w) (h3 : w.ev.kind = 3) (hs : Prs ets (j + 1) sibs k) : Prs ets i (mkNode e kids w.val :: sibs) k
  | read {i j : Nat} {e : ET} {kids : List ND} (he : ets[i]? = some e) (h2 : e.ev.kind = 2) (hk : Prs ets (i + 1) kids j) : Prs ets i [rdNode e kids] j
theorem Prs.le {ets : List ET} {i j : Nat} {F : List ND} (h : Prs ets i F j) : i ≤ j := by
  induction h with
  | stop => exact Nat.le_refl _
  | make _ _ _ _ _ _ h1 h2 => omega
  | read _ _ _ h1 => omega
theorem Prs.stops {ets : List ET} {i j : Nat} {F : List ND} (h : Prs ets i F j) : ∀ e, ets[j]? = some e → e.ev.kind = 3 := by
  induction h with
  | stop h => exact h
  | make _ _ _ _ _ _ _ h2 => exact h2
  | read _ _ _ h1 => exact h1
def shut (K : List ND) : List (List ND × ND) → Option (List ND × List (List ND × ND))
  | [] => none
  | (L, n) :: S => if n.isMod then some (K, (L, n) :: S) else shut (L ++ [n.kid K]) S
inductive Shuts : List ND → List (List ND × ND) → List ND → List (List ND × ND) → Prop
  | refl {K : List ND} {S : List (List ND × ND)} : Shuts K S K S
  | step {K K' L : List ND} {n : ND} {S S' : List (List ND × ND)} (h : Shuts K' S' K ((L, n) :: S)) (hn : n.isMod = false) : Shuts K' S' (L ++ [n.kid K]) S
theorem Shuts.shut {K' K L : List ND} {S' S : List (List ND × ND)} {n : ND} (hn : n.isMod = true) (h : Shuts K' S' K ((L, n) :: S)) : shut K' S' = some (K, (L, n) :: S) := by
  have key : ∀ {A : List ND} {B : List (List ND × ND)}, Shuts K' S' A B → Go.Proofs.YtbhiaeciiphelaaGreatDoor.shut K' S' = Go.Proofs.YtbhiaeciiphelaaGreatDoor.shut A B := by
    clear h
    intro A B h
    induction h with
    | refl => rfl
    | step h hn ih =>
      rw [ih]
      conv => lhs; unfold Go.Proofs.YtbhiaeciiphelaaGreatDoor.shut
      simp [hn]
  rw [key h]
  unfold Go.Proofs.YtbhiaeciiphelaaGreatDoor.shut
  simp [hn]
theorem rt_len (l : List Ev) : ∀ (r r' : Rt), r.run l = some r' → l.length + r'.opn.length + 2 * r.n ≤ 2 * r'.n + r.opn.length := by
  induction l with
  | nil =>
    intro r r' h
    injection h with h
    subst h
    simp; omega
  | cons e l ih =>
    intro r r' h
    unfold Rt.run at h
    cases hs : r.step e with
    | none => rw [hs] at h; cases h
    | some q =>
      rw [hs] at h
      have h1 := ih q r' h
      have h2 : 1 + q.opn.length + 2 * r.n ≤ 2 * q.n + r.opn.length := by
        unfold Rt.step at hs
        split at hs
        · cases hs
        split at hs
        · split at hs
          · cases hs
          · injection hs with hs; subst hs; simp; omega
        split at hs
        · split at hs
          · cases hs
          · injection hs with hs; subst hs; simp; omega
        split at hs
        · split at hs
          · cases hs
          · split at hs
            · cases hs
            · rename_i ho _
              injection hs with hs; subst hs; simp [ho]; omega
        · cases hs
      simp only [List.length_cons]
      omega
theorem right_len {l : List Ev} (h : rightOf l = true) : l.length ≤ 60000 := by
  unfold rightOf at h
  cases hr : Rt.start.run l with
  | none => rw [hr] at h; cases h
  | some r =>
    rw [hr] at h
    have h1 := rt_len l _ _ hr
    simp only [decide_eq_true_eq] at h
    have h2 := h.2
    simp [Rt.start] at h1
    omega
end Go.Proofs.YtbhiaeciiphelaaGreatDoor
namespace Go.Proofs.YtbhiaeciiphelaaGreatDoor
open Go.RowKit
theorem right_big (w : World) (a : Option Addr) (n c : Nat) (h : ¬ n ≤ 60000) : Calls Tryz.prog 24 #[.slice a n c] w fun x w' => x = .returned (.bool false) ∧ Keeps w w' := by
  have k0 : (60000 : Int) < n := by omega
  go_enter Tryz.func24, Tryz.ntmps24
  go_wp2
  go_ret
  exact ⟨rfl, Keeps.refl _⟩
theorem right_any (w : World) (a : Option Addr) (n c : Nat) (evs : List Ev) (hev : EvsAt w a evs) (hn : n = evs.length) : Calls Tryz.prog 24 #[.slice a n c] w fun x w' => x = .returned (.bool (readOf evs).isSome) ∧ Keeps w w' := by
  by_cases h : n ≤ 60000
  · exact right_is ⟨hev, hn, h⟩
  · refine (right_big w a n c h).mono ?_
    rintro _ w' ⟨rfl, hk⟩
    refine ⟨?_, hk⟩
    rw [← right_read]
    cases hr : rightOf evs with
    | false => rfl
    | true => have := right_len hr; omega
structure EtsAt (w : World) (A : Nat → Prop) (e : Nat) (a : Option Addr) (ets : List ET) : Prop where
  row : ∀ (i : Nat) (t : ET), ets[i]? = some t → ∃ eb eo, a = some ⟨eb, eo, none⟩ ∧ ¬ A eb ∧ eb < w.heap.size ∧ ∀ (j : Nat) (v : Value), t.ev.cells[j]? = some v → w.cell? ⟨eb, eo + i * 8 + j, none⟩ = some v
  args : ∀ (i : Nat) (t : ET), ets[i]? = some t → RunsAt w A e (.slice t.ev.args t.ev.argn t.ev.argc) t.args
  val : ∀ (i : Nat) (t : ET), ets[i]? = some t → RunAt w A e t.val [.int .i64 t.ev.vk, .int .i64 t.ev.vn, .string t.ev.vs, .slice t.ev.va t.ev.van t.ev.vac]
theorem EtsAt.keep {w w' : World} {A A' : Nat → Prop} (hk : ∀ (g : Nat) (o : Obj), w.heap[g]? = some o → ¬ A g → w'.heap[g]? = some o ∧ ¬ A' g) {e : Nat} {a : Option Addr} {ets : List ET} (h : EtsAt w A e a ets) : EtsAt w' A' e a ets :=
  ⟨fun i t hi => by
    obtain ⟨eb, eo, h1, h2, h3, h4⟩ := h.row i t hi
    obtain ⟨h5, h6⟩ := hk eb _ (Array.getElem?_eq_getElem h3) h2
    refine ⟨eb, eo, h1, h6, heap_lt h5, fun j v hj => ?_⟩
    rw [World.cell?_of_block (w := w) (a := ⟨eb, eo + i * 8 + j, none⟩) (by rw [h5, Array.getElem?_eq_getElem h3])]
    exact h4 j v hj, fun i t hi => (h.args i t hi).keep hk, fun i t hi => (h.val i t hi).keep hk⟩
theorem EtsAt.evs {w : World} {A : Nat → Prop} {e : Nat} {a : Option Addr} {ets : List ET} (h : EtsAt w A e a ets) : EvsAt w a (ets.map ET.ev) :=
  ⟨fun i x hx => by
    rw [List.getElem?_map] at hx
    cases ht : ets[i]? with
    | none => rw [ht] at hx; cases hx
    | some t =>
      rw [ht] at hx
      injection hx with hx
      subst hx
      obtain ⟨eb, eo, h1, _, h3, h4⟩ := h.row i t ht
      exact ⟨eb, eo, h1, h3, h4⟩⟩
theorem NodesAt.deeper {w : World} {A : Nat → Prop} {e : Nat} : ∀ {d : Nat} {l : List ND} {v : Value}, NodesAt w A e d l v → NodesAt w A e (d + 1) l v
  | 0, l, v, h => by
    obtain ⟨rfl, p, c, rfl⟩ := h
    exact ⟨p, c, rfl, by simp, fun j _ _ _ _ _ _ _ hj => by simp at hj⟩
  | d + 1, l, v, h => by
    obtain ⟨p, c, rfl, hl, h1⟩ := h
    refine ⟨p, c, rfl, hl, fun j mod site addr args seen wrote kids hj => ?_⟩
    obtain ⟨g, o, va, s0, s1, s2, s3, w0, w1, w2, w3, vk, h2, h3, h4, h5, h6, h7, h8⟩ := h1 j mod site addr args seen wrote kids hj
    exact ⟨g, o, va, s0, s1, s2, s3, w0, w1, w2, w3, vk, h2, h3, h4, h5, h6, h7, NodesAt.deeper h8⟩
theorem NodesAt.le {w : World} {A : Nat → Prop} {e d : Nat} {l : List ND} {v : Value} (h : NodesAt w A e d l v) : ∀ {d' : Nat}, d ≤ d' → NodesAt w A e d' l v := by
  intro d' hd
  induction d' with
  | zero =>
    obtain rfl : d = 0 := by omega
    exact h
  | succ d' ih =>
    by_cases h1 : d = d' + 1
    · rw [← h1]; exact h
    · exact (ih (by omega)).deeper
theorem Prs.len {ets : List ET} {i j : Nat} {F : List ND} (h : Prs ets i F j) : F.length ≤ j - i := by
  induction h with
  | stop => simp
  | make _ _ hk _ _ hs _ ih2 =>
    have := hk.le
    have := hs.le
    simp only [List.length_cons]
    omega
  | read _ _ hk _ =>
    have := hk.le
    simp only [List.length_cons, List.length_nil]
    omega
end Go.Proofs.YtbhiaeciiphelaaGreatDoor
namespace Go.Proofs.YtbhiaeciiphelaaGreatDoor
open Go.RowKit
def NodeCs (w : World) (A : Nat → Prop) (e d : Nat) : ND → List Value → Prop
  | .mk mod site addr args seen wrote kids, cs => ∃ va s0 s1 s2 s3 w0 w1 w2 w3 vk, cs = [.bool mod, .int .i64 site, .int .i64 addr, va, s0, s1, s2, s3, w0, w1, w2, w3, vk] ∧
      RunsAt w A e va args ∧ RunAt w A e seen [s0, s1, s2, s3] ∧ RunAt w A e wrote [w0, w1, w2, w3] ∧ NodesAt w A e d kids vk
def NodeRow (w : World) (A : Nat → Prop) (e d : Nat) (L : List ND) (xs : List Value) : Prop :=
  ∀ (j : Nat) (nd : ND), L[j]? = some nd → ∃ cs, NodeCs w A e d nd cs ∧ ∀ (i : Nat) (v : Value), cs[i]? = some v → xs[j * 13 + i]? = some v
theorem NodeCs.keep {w w' : World} {A A' : Nat → Prop} (hk : ∀ (g : Nat) (o : Obj), w.heap[g]? = some o → ¬ A g → w'.heap[g]? = some o ∧ ¬ A' g) {e d : Nat} {nd : ND} {cs : List Value} (h : NodeCs w A e d nd cs) : NodeCs w' A' e d nd cs := by
  obtain ⟨m, s, a, ar, se, wr, ki⟩ := nd
  obtain ⟨va, s0, s1, s2, s3, w0, w1, w2, w3, vk, hcs, h1, h2, h3, h4⟩ := h
  exact ⟨va, s0, s1, s2, s3, w0, w1, w2, w3, vk, hcs, h1.keep hk, h2.keep hk, h3.keep hk, h4.keep hk⟩
theorem NodeCs.len {w : World} {A : Nat → Prop} {e d : Nat} {nd : ND} {cs : List Value} (h : NodeCs w A e d nd cs) : cs.length = 13 := by
  obtain ⟨m, s, a, ar, se, wr, ki⟩ := nd
  obtain ⟨va, s0, s1, s2, s3, w0, w1, w2, w3, vk, rfl, _⟩ := h
  rfl
theorem NodeRow.keep {w w' : World} {A A' : Nat → Prop} (hk : ∀ (g : Nat) (o : Obj), w.heap[g]? = some o → ¬ A g → w'.heap[g]? = some o ∧ ¬ A' g) {e d : Nat} {L : List ND} {xs : List Value} (h : NodeRow w A e d L xs) : NodeRow w' A' e d L xs :=
  fun j nd hj => by obtain ⟨cs, h1, h2⟩ := h j nd hj; exact ⟨cs, h1.keep hk, h2⟩
theorem NodeRow.last {w : World} {A : Nat → Prop} {e d : Nat} {L : List ND} {n : ND} {xs xs' cs : List Value} (h : NodeRow w A e d L xs) (hlow : ∀ k, k < L.length * 13 → xs'[k]? = xs[k]?) (hcs : NodeCs w A e d n cs)
    (hhi : ∀ (i : Nat) (v : Value), cs[i]? = some v → xs'[L.length * 13 + i]? = some v) : NodeRow w A e d (L ++ [n]) xs' := fun j nd hj => by
  by_cases hjl : j < L.length
  · rw [List.getElem?_append_left hjl] at hj
    obtain ⟨c2, h1, h2⟩ := h j nd hj
    refine ⟨c2, h1, fun i v hi => ?_⟩
    have := (List.getElem?_eq_some_iff.1 hi).1
    rw [h1.len] at this
    rw [hlow _ (by omega)]
    exact h2 i v hi
  · rw [List.getElem?_append_right (by omega)] at hj
    have h0 : j - L.length = 0 := by
      have := (List.getElem?_eq_some_iff.1 hj).1
      simp at this
      omega
    rw [h0] at hj
    injection hj with hj
    subst hj
    obtain rfl : j = L.length := by omega
    exact ⟨cs, hcs, hhi⟩
theorem NodeRow.init {w : World} {A : Nat → Prop} {e d : Nat} {L : List ND} {n : ND} {xs : List Value} (h : NodeRow w A e d (L ++ [n]) xs) : NodeRow w A e d L xs ∧ ∃ cs, NodeCs w A e d n cs ∧ ∀ (i : Nat) (v : Value), cs[i]? = some v → xs[L.length * 13 + i]? = some v :=
  ⟨fun j nd hj => h j nd (by rw [List.getElem?_append_left (List.getElem?_eq_some_iff.1 hj).1]; exact hj), h L.length n (by simp)⟩
theorem NodesAt.nil (w : World) (A : Nat → Prop) (e d : Nat) (p : Option Addr) (c : Nat) : NodesAt w A e d [] (.slice p 0 c) := by
  cases d with
  | zero => exact ⟨rfl, p, c, rfl⟩
  | succ d => exact ⟨p, c, rfl, by simp, fun j _ _ _ _ _ _ _ hj => by simp at hj⟩
theorem RunAt.zero (w : World) (A : Nat → Prop) (e : Nat) : RunAt w A (e + 1) RV.none [.int .i64 0, .int .i64 0, .string ⟨#[]⟩, .slice none 0 0] :=
  ⟨none, 0, rfl, by simp, fun j t hj => by simp at hj⟩
theorem RunsAt.nil (w : World) (A : Nat → Prop) (e : Nat) : RunsAt w A e (.slice none 0 0) [] :=
  ⟨none, 0, rfl, by simp, fun j t hj => by simp at hj⟩
def ownL (v : Value) : List Nat := v.ownBlock.toList
theorem ownL_nil : ownL (.slice none 0 0) = [] := rfl
theorem ownL_slice (g n c : Nat) : ownL (.slice (some ⟨g, 0, none⟩) n c) = [g] := rfl
theorem mem_ownL {v : Value} {g : Nat} : g ∈ ownL v ↔ v.ownBlock = some g := by
  unfold ownL
  rw [Option.mem_toList]
theorem nd_ownL (v : Value) : (ownL v).Nodup := by
  unfold ownL
  cases v.ownBlock <;> simp
def Nests (w : World) (base : Nat) (A : Nat → Prop) (e : Nat) : Nat → List (List ND) → Option Addr → List Nat → Prop
  | _, [], p, B => p = none ∧ B = []
  | d, L :: S, p, B => ∃ b v xs p' B', p = some ⟨b, 0, none⟩ ∧ B = b :: (ownL v ++ B') ∧ base ≤ b ∧ w.heap[b]? = some (.cells #[v, .pointer p'] 110 (0, 0)) ∧ w.ownsRow base 114 13 v L.length xs ∧ NodeRow w A e d L xs ∧ Nests w base A e (d + 1) S p' B'
theorem Nests.frame {W W' : World} {base e : Nat} {A A' : Nat → Prop} (hk : ∀ (g : Nat) (o : Obj), W.heap[g]? = some o → ¬ A g → W'.heap[g]? = some o ∧ ¬ A' g) : ∀ {d : Nat} {S : List (List ND)} {p : Option Addr} {B : List Nat},
    (∀ g ∈ B, W'.heap[g]? = W.heap[g]?) → Nests W base A e d S p B → Nests W' base A' e d S p B
  | _, [], _, _, _, h => h
  | d, L :: S, p, B, hB, h => by
    obtain ⟨b, v, xs, p', B', rfl, rfl, hb, hblk, hrow, hnr, hn⟩ := h
    refine ⟨b, v, xs, p', B', rfl, rfl, hb, by rw [hB b List.mem_cons_self]; exact hblk, row_same hrow fun g hg => hB g ?_, hnr.keep hk, Nests.frame hk (fun g hg => hB g ?_) hn⟩
    · exact List.mem_cons_of_mem _ (List.mem_append_left _ (mem_ownL.2 hg))
    · exact List.mem_cons_of_mem _ (List.mem_append_right _ hg)
theorem Nests.lt {W : World} {base e : Nat} {A : Nat → Prop} : ∀ {d : Nat} {S : List (List ND)} {p : Option Addr} {B : List Nat}, Nests W base A e d S p B → ∀ g ∈ B, base ≤ g ∧ ∃ c t, W.heap[g]? = some (.cells c t (0, 0)) ∧ (t = 110 ∨ t = 114)
  | _, [], _, _, h, g, hg => by rw [h.2] at hg; exact (List.not_mem_nil hg).elim
  | d, L :: S, p, B, h, g, hg => by
    obtain ⟨b, v, xs, p', B', rfl, rfl, hb, hblk, hrow, hnr, hn⟩ := h
    rcases List.mem_cons.1 hg with rfl | hg
    · exact ⟨hb, _, _, hblk, .inl rfl⟩
    · rcases List.mem_append.1 hg with hg | hg
      · obtain ⟨cur, hc⟩ := row_block hrow (mem_ownL.1 hg)
        exact ⟨(hrow.lt g (mem_ownL.1 hg)).1, _, _, hc, .inr rfl⟩
      · exact hn.lt g hg
def lists (S : List (List ND × ND)) : List (List ND) := S.map fun x => x.1 ++ [x.2]
structure NestAt (w W : World) (e D : Nat) (K : List ND) (S : List (List ND × ND)) (b : Nat) (v : Value) (xs : List Value) (p' : Option Addr) : Prop where
  kept : Keeps w W
  nb : w.heap.size ≤ b
  blk : W.heap[b]? = some (.cells #[v, .pointer p'] 110 (0, 0))
  row : W.ownsRow w.heap.size 114 13 v K.length xs
  ex : ∃ d B, D = d + S.length ∧ (b :: (ownL v ++ B)).Nodup ∧ NodeRow W (· ∈ b :: (ownL v ++ B)) e d K xs ∧ Nests W w.heap.size (· ∈ b :: (ownL v ++ B)) e (d + 1) (lists S) p' B
section
variable {w W W' : World} {e D b : Nat} {K : List ND} {S : List (List ND × ND)} {v : Value} {xs : List Value} {p' : Option Addr}
theorem NestAt.keeps (h : NestAt w W e D K S b v xs p') (hk : Keeps W W') : NestAt w W' e D K S b v xs p' := by
  obtain ⟨d, B, hd, hnd, hr, hn⟩ := h.ex
  have hkk : ∀ (g : Nat) (o : Obj), W.heap[g]? = some o → ¬ g ∈ b :: (ownL v ++ B) → W'.heap[g]? = some o ∧ ¬ g ∈ b :: (ownL v ++ B) := fun g o hg hA => ⟨hk.at hg (fun x => x), hA⟩
  refine ⟨Keeps.trans h.kept hk, h.nb, hk.at h.blk (fun x => x), row_same h.row fun g hg => hk.block g ((h.row.lt g hg).2) (fun x => x), d, B, hd, hnd, hr.keep hkk, hn.frame hkk fun g hg => ?_⟩
  obtain ⟨_, c, t, hc, _⟩ := hn.lt g hg
  exact hk.block g (heap_lt hc) (fun x => x)
theorem NestAt.start (hk : Keeps w W) (nb : w.heap.size ≤ b) (hb : W.heap[b]? = some (.cells #[.slice none 0 0, .pointer none] 110 (0, 0))) : NestAt w W e D [] [] b (.slice none 0 0) [] none :=
  ⟨hk, nb, hb, World.ownsRow_nil _ _ _ _, D, [], by simp, by simp [ownL_nil], fun j nd hj => by simp at hj, rfl, rfl⟩
theorem NestAt.put {W1 W5 : World} (h : NestAt w W e D K S b v xs p') (hS : S.length < D) {cs : List Value} {nd : ND} {v' : Value} {nb : Nat} (hk0 : Keeps W W1) (hcs : ∀ d, NodeCs W1 (fun g => g < W.heap.size) e d nd cs)
    (hk : Kept (fun g => g = b ∨ v.ownBlock = some g) W1 W5) (hb5 : W5.heap[b]? = some (.cells #[v', .pointer p'] 110 (0, 0))) (hr5 : W5.ownsRow w.heap.size 114 13 v' (K.length + 1) (xs ++ cs))
    (hat : v'.ownBlock = v.ownBlock ∨ ∃ g, v'.ownBlock = some g ∧ W1.heap.size ≤ g) (hn5 : W5.heap[nb]? = some (.cells #[.slice none 0 0, .pointer (some ⟨b, 0, none⟩)] 110 (0, 0))) (hnb : W1.heap.size ≤ nb) :
    NestAt w W5 e D [] ((K, nd) :: S) nb (.slice none 0 0) [] (some ⟨b, 0, none⟩) := by
  obtain ⟨d, B, hd, hnd, hr, hn⟩ := h.ex
  have hk2 : Kept (fun g => g = b ∨ v.ownBlock = some g) W W5 := Kept.trans (hk0.mono (fun _ _ x => x.elim)) hk (fun _ _ x => x)
  have hbl := heap_lt h.blk
  have hsz := hk0.size
  have hvl : ∀ g, v.ownBlock = some g → g < W.heap.size := fun g hg => (h.row.lt g hg).2
  have hnd2 := hnd
  rw [List.nodup_cons] at hnd2
  obtain ⟨n1, n2⟩ := hnd2
  rw [List.nodup_append] at n2
  obtain ⟨n2, n3, n4⟩ := n2
  have hBl : ∀ g ∈ B, g < W.heap.size := fun g hg => by obtain ⟨_, c, t, hc, _⟩ := hn.lt g hg; exact heap_lt hc
  have hv' : ∀ g, v'.ownBlock = some g → v.ownBlock = some g ∨ W1.heap.size ≤ g := fun g hg => by
    rcases hat with e | ⟨g', e, hg'⟩
    · exact .inl (e ▸ hg)
    · rw [e] at hg; injection hg with hg; subst hg; exact .inr hg'
  have hne : v'.ownBlock ≠ some nb := fun e => by
    obtain ⟨cur, hc⟩ := row_block hr5 e
    rw [hn5] at hc
    simp at hc
  have hnew : ∀ g, g < W1.heap.size → ¬ g ∈ b :: (ownL v ++ B) → ¬ g ∈ nb :: (ownL (.slice none 0 0) ++ b :: (ownL v' ++ B)) := fun g hg hA hm => by
    simp only [ownL_nil, List.nil_append, List.mem_cons, List.mem_append, mem_ownL] at hm hA
    rcases hm with rfl | rfl | hm | hm
    · omega
    · exact hA (.inl rfl)
    · rcases hv' g hm with h1 | h1
      · exact hA (.inr (.inl h1))
      · omega
    · exact hA (.inr (.inr hm))
  have hkk : ∀ (g : Nat) (o : Obj), W.heap[g]? = some o → ¬ g ∈ b :: (ownL v ++ B) → W5.heap[g]? = some o ∧ ¬ g ∈ nb :: (ownL (.slice none 0 0) ++ b :: (ownL v' ++ B)) := fun g o hg hA => by
    have hgl := heap_lt hg
    refine ⟨hk2.at hg fun hx => hA ?_, hnew g (by omega) hA⟩
    rcases hx with rfl | hx
    · exact List.mem_cons_self
    · exact List.mem_cons_of_mem _ (List.mem_append_left _ (mem_ownL.2 hx))
  have hkc : ∀ (g : Nat) (o : Obj), W1.heap[g]? = some o → ¬ g < W.heap.size → W5.heap[g]? = some o ∧ ¬ g ∈ nb :: (ownL (.slice none 0 0) ++ b :: (ownL v' ++ B)) := fun g o hg hA => by
    refine ⟨hk.at hg fun hx => ?_, hnew g (heap_lt hg) fun hm => ?_⟩
    · rcases hx with rfl | hx
      · exact hA hbl
      · exact hA (hvl g hx)
    · simp only [List.mem_cons, List.mem_append, mem_ownL] at hm
      rcases hm with rfl | hm | hm
      · exact hA hbl
      · exact hA (hvl g hm)
      · exact hA (hBl g hm)
  refine ⟨Kept.trans h.kept hk2 ?_, by have := h.kept.size; omega, hn5, World.ownsRow_nil _ _ _ _, d - 1, b :: (ownL v' ++ B), by simp only [List.length_cons]; omega, ?_, fun j nd hj => by simp at hj, ?_⟩
  · rintro x hx (rfl | hx2)
    · have := h.nb; omega
    · have := (h.row.lt x hx2).1; omega
  · simp only [ownL_nil, List.nil_append]
    rw [List.nodup_cons, List.nodup_cons, List.nodup_append]
    refine ⟨fun hm => ?_, fun hm => ?_, ?_, n3, ?_⟩
    · simp only [List.mem_cons, List.mem_append, mem_ownL] at hm
      rcases hm with rfl | hm | hm
      · omega
      · exact hne hm
      · have := hBl _ hm; omega
    · simp only [List.mem_append, mem_ownL] at hm
      rcases hm with hm | hm
      · rcases hv' b hm with h1 | h1
        · exact n1 (List.mem_append_left _ (mem_ownL.2 h1))
        · omega
      · exact n1 (List.mem_append_right _ hm)
    · exact nd_ownL _
    · intro x hx y hy exy
      subst exy
      rcases hv' x (mem_ownL.1 hx) with h1 | h1
      · exact n4 x (mem_ownL.2 h1) x hy rfl
      · have := hBl x hy; omega
  · rw [show d - 1 + 1 = d by omega]
    refine ⟨b, v', xs ++ cs, p', B, rfl, rfl, h.nb, hb5, by rw [List.length_append]; exact hr5, ?_, hn.frame hkk fun g hg => ?_⟩
    · refine NodeRow.last (L := K) (hr.keep hkk) (fun k hk => ?_) ((hcs d).keep hkc) fun i u hi => ?_
      · rw [List.getElem?_append_left (by rw [h.row.1]; exact hk)]
      · rw [List.getElem?_append_right (by rw [h.row.1]; omega), h.row.1, show K.length * 13 + i - K.length * 13 = i by omega]
        exact hi
    · refine hk2.block g (hBl g hg) fun hx => ?_
      rcases hx with rfl | hx
      · exact n1 (List.mem_append_right _ hg)
      · exact n4 g (mem_ownL.2 hx) g hg rfl
theorem row_slice {base ty sz n : Nat} (h : W.ownsRow base ty sz v n xs) (hn : 0 < n) : ∃ g cap cur, v = .slice (some ⟨g, 0, none⟩) n cap ∧ base ≤ g ∧ W.heap[g]? = some (.cells cur ty (0, 0)) ∧ n ≤ cap ∧ cap ≤ maxLen ∧ cur.size = cap * sz ∧ cur.toList.take (n * sz) = xs := by
  rcases h.2 with ⟨_, h0⟩ | h2
  · omega
  · exact h2
theorem NodeRow.nodes {A : Nat → Prop} {base d : Nat} (h : NodeRow W A e d K xs) (hr : W.ownsRow base 114 13 v K.length xs) (hA : ∀ g, v.ownBlock = some g → ¬ A g) (hK : K.length * 184 ≤ 140737488355328) : NodesAt W A e (d + 1) K v := by
  rcases hr.2 with ⟨rfl, h0⟩ | ⟨g, cap, cur, rfl, hb, hg, hc, hm, hs, ht⟩
  · rw [List.eq_nil_of_length_eq_zero h0]; exact NodesAt.nil _ _ _ _ _ _
  · refine ⟨_, _, rfl, hK, fun j mod site addr args seen wrote kids hj => ?_⟩
    obtain ⟨cs, ⟨va, s0, s1, s2, s3, w0, w1, w2, w3, vk, rfl, h1, h2, h3, h4⟩, hx⟩ := h j _ hj
    refine ⟨g, 0, va, s0, s1, s2, s3, w0, w1, w2, w3, vk, rfl, hA g rfl, fun i u hi => ?_, h1, h2, h3, h4⟩
    have hjl := (List.getElem?_eq_some_iff.1 hj).1
    have hil := (List.getElem?_eq_some_iff.1 hi).1
    simp only [List.length_cons, List.length_nil] at hil
    rw [Nat.zero_add, hr.cellAt _ (by omega)]
    exact hx i u hi
theorem NestAt.wrote {L : List ND} {n : ND} {W1 : World} (h : NestAt w W e D (L ++ [n]) S b v xs p') (hk : Keeps W W1) {y0 y1 y2 y3 : Value} {t : RV} (hr : RunAt W1 (fun g => g < W.heap.size) e t [y0, y1, y2, y3]) :
    ∃ g cap cur xs', v = .slice (some ⟨g, 0, none⟩) (L.length + 1) cap ∧ W.heap[g]? = some (.cells cur 114 (0, 0)) ∧ L.length * 13 + 13 ≤ cur.size ∧ L.length + 1 ≤ cap ∧ cap ≤ maxLen ∧
      NestAt w ((((W1.setCell ⟨g, L.length * 13 + 8, none⟩ y0).setCell ⟨g, L.length * 13 + 9, none⟩ y1).setCell ⟨g, L.length * 13 + 10, none⟩ y2).setCell ⟨g, L.length * 13 + 11, none⟩ y3) e D (L ++ [n.wrt t]) S b v xs' p' := by
  have h1 := h.keeps hk
  obtain ⟨d, B, hd, hnd, hnr, hn⟩ := h1.ex
  have hrow := h1.row
  rw [show (L ++ [n]).length = L.length + 1 by simp] at hrow
  obtain ⟨g, cap, cur, rfl, hgb, hg, hc, hm, hs, ht⟩ := row_slice hrow (by omega)
  have hgW : g < W.heap.size := (h.row.lt g rfl).2
  have hg0 : W.heap[g]? = some (.cells cur 114 (0, 0)) := by rw [← hk.block g hgW (fun x => x)]; exact hg
  obtain ⟨hinit, cs, hcs, hx⟩ := hnr.init
  have s1 := (hrow.stored (L.length * 13 + 8) y0).1
  have s2 := (s1.stored (L.length * 13 + 9) y1).1
  have s3 := (s2.stored (L.length * 13 + 10) y2).1
  have s4 := (s3.stored (L.length * 13 + 11) y3).1
  refine ⟨g, cap, cur, (((xs.set (L.length * 13 + 8) y0).set (L.length * 13 + 9) y1).set (L.length * 13 + 10) y2).set (L.length * 13 + 11) y3, rfl, hg0, by omega, hc, hm, ?_⟩
  generalize hW4 : (((W1.setCell ⟨g, L.length * 13 + 8, none⟩ y0).setCell ⟨g, L.length * 13 + 9, none⟩ y1).setCell ⟨g, L.length * 13 + 10, none⟩ y2).setCell ⟨g, L.length * 13 + 11, none⟩ y3 = W4 at s4 ⊢
  have hne : ∀ k, k ≠ g → W4.heap[k]? = W1.heap[k]? := fun k hk => by rw [← hW4, heap_set_other _ hk, heap_set_other _ hk, heap_set_other _ hk, heap_set_other _ hk]
  have hbg : b ≠ g := fun e => by have := h1.blk; rw [e, hg] at this; simp at this
  simp only [ownL_slice, List.singleton_append] at hnd hn hinit hcs hnr
  have hkk : ∀ (k : Nat) (o : Obj), W1.heap[k]? = some o → ¬ k ∈ b :: g :: B → W4.heap[k]? = some o ∧ ¬ k ∈ b :: g :: B := fun k o hk hA =>
    ⟨by rw [hne k fun e => hA (by rw [e]; exact List.mem_cons_of_mem _ List.mem_cons_self)]; exact hk, hA⟩
  have hall : ∀ k ∈ b :: g :: B, k < W.heap.size := fun k hk2 => by
    rcases List.mem_cons.1 hk2 with rfl | hk2
    · exact heap_lt h.blk
    · rcases List.mem_cons.1 hk2 with rfl | hk2
      · exact hgW
      · obtain ⟨d', B', _, _, _, hn'⟩ := h.ex
        have hbl : ∀ {d1 d2 : Nat} {A1 A2 : Nat → Prop} {S : List (List ND)} {p : Option Addr} {B1 B2 : List Nat}, Nests W w.heap.size A1 e d1 S p B1 → Nests W1 w.heap.size A2 e d2 S p B2 → B1 = B2 := by
          intro d1 d2 A1 A2 S
          induction S generalizing d1 d2 with
          | nil => intro p B1 B2 q1 q2; rw [q1.2, q2.2]
          | cons L S ih =>
            intro p B1 B2 q1 q2
            obtain ⟨b1, v1, xs1, p1, B1, rfl, rfl, _, q3, _, _, q4⟩ := q1
            obtain ⟨b2, v2, xs2, p2, B2, e1, rfl, _, q5, _, _, q6⟩ := q2
            injection e1 with e1
            injection e1 with e1 _ _
            subst e1
            rw [hk.at q3 (fun x => x)] at q5
            simp at q5
            obtain ⟨rfl, rfl⟩ := q5
            rw [ih q4 q6]
        rw [← hbl hn' hn] at hk2
        obtain ⟨_, c, t, hc, _⟩ := hn'.lt k hk2
        exact heap_lt hc
  have hkc : ∀ (k : Nat) (o : Obj), W1.heap[k]? = some o → ¬ k < W.heap.size → W4.heap[k]? = some o ∧ ¬ k ∈ b :: g :: B := fun k o hk hA =>
    ⟨by rw [hne k fun e => hA (by rw [e]; exact hgW)]; exact hk, fun hm => hA (hall k hm)⟩
  have hnd3 := hnd
  rw [List.nodup_cons, List.nodup_cons] at hnd3
  refine ⟨?_, h1.nb, by rw [hne b hbg]; exact h1.blk, by simpa using s4, d, B, hd, by simpa [ownL_slice] using hnd, ?_, ?_⟩
  · rw [← hW4]; exact Kept.one0 (Kept.one0 (Kept.one0 (Kept.one0 h1.kept hgb _ _) hgb _ _) hgb _ _) hgb _ _
  · simp only [ownL_slice, List.singleton_append]
    obtain ⟨m, s, a, ar, se, wr, ki⟩ := n
    obtain ⟨va, q0, q1, q2, q3, w0, w1, w2, w3, vk, rfl, c1, c2, c3, c4⟩ := hcs
    have hxl : xs.length = (L.length + 1) * 13 := hrow.1
    refine NodeRow.last (cs := [.bool m, .int .i64 s, .int .i64 a, va, q0, q1, q2, q3, y0, y1, y2, y3, vk]) (hinit.keep hkk) (fun k hk => ?_) ⟨va, q0, q1, q2, q3, y0, y1, y2, y3, vk, rfl, c1.keep hkk, c2.keep hkk, hr.keep hkc, c4.keep hkk⟩ fun i u hi => ?_
    · rw [List.getElem?_set_ne (by omega), List.getElem?_set_ne (by omega), List.getElem?_set_ne (by omega), List.getElem?_set_ne (by omega)]
    · have hil := (List.getElem?_eq_some_iff.1 hi).1
      simp only [List.length_cons, List.length_nil] at hil
      have old : ∀ i : Nat, i < 8 ∨ i = 12 → ([Value.bool m, .int .i64 s, .int .i64 a, va, q0, q1, q2, q3, w0, w1, w2, w3, vk] : List Value)[i]? = some u →
          ((((xs.set (L.length * 13 + 8) y0).set (L.length * 13 + 9) y1).set (L.length * 13 + 10) y2).set (L.length * 13 + 11) y3)[L.length * 13 + i]? = some u := fun i hi8 h9 => by
        rw [List.getElem?_set_ne (by omega), List.getElem?_set_ne (by omega), List.getElem?_set_ne (by omega), List.getElem?_set_ne (by omega)]
        exact hx i u h9
      match i with
      | 0 => exact old 0 (by omega) hi
      | 1 => exact old 1 (by omega) hi
      | 2 => exact old 2 (by omega) hi
      | 3 => exact old 3 (by omega) hi
      | 4 => exact old 4 (by omega) hi
      | 5 => exact old 5 (by omega) hi
      | 6 => exact old 6 (by omega) hi
      | 7 => exact old 7 (by omega) hi
      | 8 => rw [List.getElem?_set_ne (by omega), List.getElem?_set_ne (by omega), List.getElem?_set_ne (by omega), List.getElem?_set_self (by omega)]; exact hi
      | 9 => rw [List.getElem?_set_ne (by omega), List.getElem?_set_ne (by omega), List.getElem?_set_self (by simp; omega)]; exact hi
      | 10 => rw [List.getElem?_set_ne (by omega), List.getElem?_set_self (by simp; omega)]; exact hi
      | 11 => rw [List.getElem?_set_self (by simp; omega)]; exact hi
      | 12 => exact old 12 (by omega) hi
      | i + 13 => omega
  · simp only [ownL_slice, List.singleton_append]
    refine hn.frame hkk fun k hk => hne k fun e => ?_
    rw [e] at hk
    exact hnd3.2.1 hk
theorem NestAt.done (h : NestAt w W e D K [] b v xs p') (hK : K.length * 184 ≤ 140737488355328) : NodesAt W (fun _ => False) e (D + 1) K v := by
  obtain ⟨d, B, hd, hnd, hr, _⟩ := h.ex
  simp only [List.length_nil, Nat.add_zero] at hd
  subst hd
  exact (hr.keep (w' := W) (A' := fun _ => False) (fun g o hg hA => ⟨hg, fun x => x⟩)).nodes h.row (fun _ _ x => x) hK
end
end Go.Proofs.YtbhiaeciiphelaaGreatDoor
