/-
  DERIVED. The scanner's map of words: looking up, writing. No condition.
-/
import Derived.Test.YtfehlbepjmmkeaaGreatDoorJaa
import Derived.Test.YtfehlbepjmmkeaaGreatDoorXc
import Derived.Test.YtfehlbepjmmkeaaGreatDoorJab
namespace Go.Proofs.YtfehlbepjmmkeaaGreatDoor
open Go.RowKit

/-- The words, each as a row of bytes. -/
def wordL : List ByteArray := [⟨#[97, 110, 100]⟩, ⟨#[99, 97, 115, 101]⟩, ⟨#[100, 97, 116, 97]⟩, ⟨#[101, 108, 115, 101]⟩, ⟨#[101, 110, 100]⟩, ⟨#[102, 110]⟩, ⟨#[102, 117, 110]⟩, ⟨#[105, 102]⟩, ⟨#[105, 110]⟩, ⟨#[105, 110, 112, 117, 116]⟩, ⟨#[108, 101, 116]⟩, ⟨#[111, 102]⟩, ⟨#[111, 117, 116, 112, 117, 116]⟩, ⟨#[116, 104, 101, 110]⟩, ⟨#[118, 97, 108]⟩]
/-- A block is a map of the first n words. -/
def WordsAt (w : World) (M n : Nat) : Prop :=
  ∃ es cl, w.heap[M]? = some (.map es cl) ∧ es.toList.map (fun e => (e.key, e.val)) = (wordL.take n).map (fun k => (Value.string k, Value.int .i64 5))
theorem WordsAt.same {w w' : World} {M n : Nat} (h : WordsAt w M n) (hs : w'.heap[M]? = w.heap[M]?) : WordsAt w' M n := by
  obtain ⟨es, cl, h1, h2⟩ := h
  exact ⟨es, cl, hs.trans h1, h2⟩
theorem WordsAt.keep {S : Nat → Prop} {w w' : World} {M n : Nat} (h : WordsAt w M n) (hk : Kept S w w') (hS : ¬ S M) : WordsAt w' M n := by
  have h' := h
  obtain ⟨es, cl, h1, h2⟩ := h'
  exact h.same (hk.block M (heap_lt h1) hS)
theorem kd9 : Ex.KD Tryz.prog 9 1 := Tryz.underlying9
theorem bytes_eq_self (k : ByteArray) : (k == k) = true := by
  obtain ⟨a⟩ := k
  show (a == a) = true
  simp
theorem bytes_eq_of {k p : ByteArray} (h : (k == p) = true) : k = p := by
  obtain ⟨a⟩ := k
  obtain ⟨b⟩ := p
  have h1 : (a == b) = true := h
  rw [eq_of_beq h1]
theorem word_small : ∀ k ∈ wordL, greatC (byteC k (0 : Nat)) = false := by decide
theorem cmp_words {w : World} {es : List MapEntry} {n : Nat} (h : es.map (fun e => (e.key, e.val)) = (wordL.take n).map (fun k => (Value.string k, Value.int .i64 5))) (k : ByteArray) :
    ∀ e ∈ es, ∃ b, Ex.Cmp Tryz.prog w 9 1 (.string k) e.key b := by
  intro e he
  have hm : (e.key, e.val) ∈ (wordL.take n).map (fun k => (Value.string k, Value.int .i64 5)) := h ▸ List.mem_map.2 ⟨e, he, rfl⟩
  obtain ⟨p, _, hp⟩ := List.mem_map.1 hm
  injection hp with hp _
  refine ⟨decide (k = p), ⟨?_, fun _ d hd => ?_, fun h3 => by cases h3⟩⟩
  · rw [← hp]; simp
  · rw [Tryz.underlying9] at hd
    injection hd with hd
    subst hd
    rw [← hp]
    simp [Instr.sameNow]
    by_cases hkp : k = p
    · rw [decide_eq_true hkp, hkp, bytes_eq_self]
    · rw [decide_eq_false hkp]
      cases hb : (k == p) with
      | false => rfl
      | true => exact absurd (bytes_eq_of hb) hkp
def isWord (n : Nat) (k : ByteArray) : Bool := (wordL.take n).any fun x => decide (x = k)
theorem isWord_iff {n : Nat} {k : ByteArray} : isWord n k = true ↔ k ∈ wordL.take n := by
  unfold isWord
  rw [List.any_eq_true]
  exact ⟨fun ⟨x, hx, he⟩ => (of_decide_eq_true he) ▸ hx, fun h => ⟨k, h, decide_eq_true rfl⟩⟩
theorem words_small {k : ByteArray} {n : Nat} (h : isWord n k = true) : greatC (byteC k (0 : Nat)) = false := word_small k (List.mem_of_mem_take (isWord_iff.1 h))
theorem WordsAt.look {w : World} {M n : Nat} (h : WordsAt w M n) (k : ByteArray) :
    (Instr.lookup 128 (.map (some M)) (.string k) true).run Tryz.prog w = .ok (.tuple #[.int .i64 (if isWord n k then 5 else 0), .bool (isWord n k)]) w := by
  obtain ⟨es, cl, h1, h2⟩ := h
  obtain ⟨r, h3, h4⟩ := Ex.findKey_run (P := Tryz.prog) (w := w) kd9 es.toList (cmp_words h2 k)
  have hck := Ex.checkKey_run (P := Tryz.prog) (w := w) kd9 es.isEmpty (.string k)
  have hz : (zeroValue 3).run Tryz.prog w = .ok (.int .i64 0) w := by kernel_rfl
  simp only [Instr.lookup, Sem.run_bind, run_underlying Tryz.underlying128, Result.andThen_ok, Ex.run_getMap h1, Sem.run_pure, hck, h3]
  cases r with
  | none =>
    have hn : isWord n k = false := Bool.eq_false_iff.2 fun hk0 => by
      have hk := isWord_iff.1 hk0
      have hm : (Value.string k, Value.int .i64 5) ∈ es.toList.map (fun e => (e.key, e.val)) := h2 ▸ List.mem_map.2 ⟨k, hk, rfl⟩
      obtain ⟨e, he, hee⟩ := List.mem_map.1 hm
      exact h4 e he (Prod.mk.inj hee).1
    simp [hz, hn]
  | some ju =>
    obtain ⟨j, u⟩ := ju
    obtain ⟨e, he, hk, hu⟩ := h4
    have hm : (e.key, e.val) ∈ (wordL.take n).map (fun k => (Value.string k, Value.int .i64 5)) := h2 ▸ List.mem_map.2 ⟨e, List.mem_of_getElem? he, rfl⟩
    obtain ⟨p, hp, hpe⟩ := List.mem_map.1 hm
    obtain ⟨q1, q2⟩ := Prod.mk.inj hpe
    rw [hk] at q1
    replace q1 := Value.string.inj q1
    subst q1
    rw [hu] at q2
    have hp' := isWord_iff.2 hp
    rw [hp', ← q2]
    rfl
theorem WordsAt.add {w : World} {M n : Nat} (h : WordsAt w M n) (k : ByteArray) (hk : wordL[n]? = some k) :
    ∃ w', (Instr.mapUpdate 128 (.map (some M)) (.string k) (.int .i64 5)).run Tryz.prog w = .ok () w' ∧ Kept (fun x => x = M) w w' ∧ WordsAt w' M (n + 1) := by
  obtain ⟨es, cl, h1, h2⟩ := h
  obtain ⟨r, h3, h4⟩ := Ex.findKey_run (P := Tryz.prog) (w := w) kd9 es.toList (cmp_words h2 k)
  have hck := Ex.checkKey_run (P := Tryz.prog) (w := w) kd9 false (.string k)
  have hlt : M < w.heap.size := heap_lt h1
  have hnew : k ∉ wordL.take n := by
    have hn : n < 15 := (List.getElem?_eq_some_iff.1 hk).1
    have hall : ((List.range 15).all fun i => (wordL.take i).all fun x => match wordL[i]? with | some y => !(x == y) | none => true) = true := by decide +kernel
    intro hm
    have h9 := List.all_eq_true.1 (List.all_eq_true.1 hall n (List.mem_range.2 hn)) k hm
    rw [hk] at h9
    simp [bytes_eq_self] at h9
  cases r with
  | some ju =>
    obtain ⟨j, u⟩ := ju
    obtain ⟨e, he, hk', hu⟩ := h4
    have hm : (e.key, e.val) ∈ (wordL.take n).map (fun k => (Value.string k, Value.int .i64 5)) := h2 ▸ List.mem_map.2 ⟨e, List.mem_of_getElem? he, rfl⟩
    obtain ⟨p, hp, hpe⟩ := List.mem_map.1 hm
    injection hpe with q1 q2
    rw [hk'] at q1
    injection q1 with q1
    exact absurd (q1 ▸ hp) hnew
  | none =>
    refine ⟨_, by simp only [Instr.mapUpdate, Sem.run_bind, run_underlying Tryz.underlying128, Result.andThen_ok, Ex.run_getMap h1, hck, h3, Ex.run_setMap _ h1]; rfl, (Kept.refl (fun x => x = M) w).putObj (fun _ => rfl) _, _, _, Array.getElem?_setIfInBounds_self_of_lt hlt, ?_⟩
    simp only [Array.toList_push, List.map_append, List.map_cons, List.map_nil, h2]
    obtain ⟨hn, e⟩ := List.getElem?_eq_some_iff.1 hk
    rw [List.take_succ_eq_append_getElem hn, e, List.map_append]; rfl
end Go.Proofs.YtfehlbepjmmkeaaGreatDoor
namespace Go.Proofs.YtfehlbepjmmkeaaGreatDoor
open Go.RowKit
set_option maxHeartbeats 4000000 in
set_option maxRecDepth 100000 in
theorem made_of (s : ByteArray) (i n sb M : Nat) (kind : Int) (v : Value) (w : World) (h : w.heap[sb]? = some (scObj s i M v)) (hs : s.size ≤ 24) (hi : i + n ≤ s.size) :
    Calls Tryz.prog 246 #[.pointer (some ⟨sb, 0, none⟩), .int .i64 kind, .int .i64 n] w fun e w' => e = .returned (.agg (Tk.cells ⟨kind, 0, s.extract i (i + n), i⟩).toArray) ∧ Keeps w w' := by
  obtain ⟨c0, c1, _, _⟩ := sc_cells h
  clear h
  have hn : ¬ (24 : Int) < n := by omega
  have hw1 : IntKind.i64.wrap ((i : Int) + n) = i + n := by rw [IntKind.wrap_i64]; omega
  have hw2 : (0 : Int) ≤ (i : Int) + n ∧ (i : Int) + n ≤ s.size := by omega
  have hw3 : (i : Int) ≤ (i : Int) + n := by omega
  have hw4 : ((i : Int) + n).toNat = i + n := by omega
  go_enter Tryz.func246, Tryz.ntmps246
  go_wp2
  go_region_held3 (fun W' => W'.cell? ⟨sb, 0, none⟩ = some (.string s) ∧ W'.cell? ⟨sb, 1, none⟩ = some (.int .i64 i)) (go_keep) (first | fail)
  go_wp2
  refine bodyPost_ret (v := .agg (Tk.cells ⟨kind, 0, s.extract i (i + n), i⟩).toArray) (by simp [results, Tryz.results246, go_sem, Tk.cells]) rfl ⟨rfl, ?_⟩
  exact Kept.drew (Keeps.alloc _ _)
end Go.Proofs.YtfehlbepjmmkeaaGreatDoor
namespace Go.Proofs.YtfehlbepjmmkeaaGreatDoor
open Go.RowKit
theorem holdL {p : Prop} (h : Hid p) : p := h.out
theorem extract_first {s : ByteArray} {i n : Nat} (hn : 1 ≤ n) (h : i + n ≤ s.size) : byteC (s.extract i (i + n)) (0 : Nat) = byteC s i := by
  have hsz : (s.extract i (i + n)).size = n := by rw [extract_size h]; omega
  rw [byteC, byteC, dif_pos (by simp [hsz]; omega), dif_pos (by simp; omega)]
  congr 1
  congr 1
  simp [ByteArray.getElem_extract]
/-- A token as a block. -/
def tokObj (k : Int) (tx : ByteArray) (i : Int) : Obj := .cells #[.int .i64 k, .int .i64 0, .string tx, .int .i64 i] 213 (0, 0)
theorem tok_cells {w : World} {p : Nat} {k : Int} {tx : ByteArray} {i : Int} (h : w.heap[p]? = some (tokObj k tx i)) :
    w.cell? ⟨p, 0, none⟩ = some (.int .i64 k) ∧ w.cell? ⟨p, 1, none⟩ = some (.int .i64 0) ∧ w.cell? ⟨p, 2, none⟩ = some (.string tx) ∧ w.cell? ⟨p, 3, none⟩ = some (.int .i64 i) := by
  unfold tokObj at h
  refine ⟨?_, ?_, ?_, ?_⟩ <;> (rw [cell_of_block h]; rfl)
theorem tok_free {w : World} {p : Nat} {k : Int} {tx : ByteArray} {i : Int} (h : w.heap[p]? = some (tokObj k tx i)) (o : Nat) : w.frozen? ⟨p, o, none⟩ = false := free_of_block h o
theorem tok_set {w : World} {p : Nat} {k : Int} {tx : ByteArray} {i : Int} (h : w.heap[p]? = some (tokObj k tx i)) (u : Int) : (w.setCell ⟨p, 0, none⟩ (.int .i64 u)).heap[p]? = some (tokObj u tx i) := by
  unfold tokObj at h ⊢
  rw [heap_set_same h]; rfl
theorem size213 : (Tryz.prog.info? 213).map (·.size) = some 4 := by kernel_rfl
theorem put_tok {W : World} {p : Nat} {k0 i0 : Int} {tx0 : ByteArray} (h : W.heap[p]? = some (tokObj k0 tx0 i0)) (k : Int) (tx : ByteArray) (i : Int) :
    ((((W.setCell ⟨p, 0, none⟩ (.int .i64 k)).setCell ⟨p, 1, none⟩ (.int .i64 0)).setCell ⟨p, 2, none⟩ (.string tx)).setCell ⟨p, 3, none⟩ (.int .i64 i)).heap[p]? = some (tokObj k tx i) := by
  unfold tokObj at h ⊢
  rw [heap_set_same (heap_set_same (heap_set_same (heap_set_same h _) _) _) _]; rfl
theorem tok_results {fn : Func} {p : Tmp} {k i : Int} {tx : ByteArray} (h : fn.results = #[.cell p 213]) (tmps : Array Value) (w : World) (g : Nat) (hp : tmps.getD p undef = .pointer (some ⟨g, 0, none⟩)) (hg : w.heap[g]? = some (tokObj k tx i)) :
    (results fn tmps).run Tryz.prog w = .ok (.agg (Tk.cells ⟨k, 0, tx, i⟩).toArray) w :=
  results_cell_row h tmps w g 213 _ _ _ hp hg Tryz.underlying213 rfl size213
theorem keeps_put {w W : World} (h : Keeps w W) {p : Nat} (hp : w.heap.size ≤ p) (o : Nat) (v : Value) : Keeps w (W.setCell ⟨p, o, none⟩ v) := Kept.setCell h (p := ⟨p, o, none⟩) (fun hl => absurd hl (Nat.not_lt.2 hp)) v
set_option maxHeartbeats 8000000 in
set_option maxRecDepth 100000 in
theorem name_of (s : ByteArray) (i sb M m : Nat) (kind : Int) (v : Value) (w : World) (h : w.heap[sb]? = some (scObj s i M v)) (hm : WordsAt w M m) (hs : s.size ≤ 24) (hi : i < s.size) (hp : partC (byteC s i) = true) :
    Calls Tryz.prog 244 #[.pointer (some ⟨sb, 0, none⟩), .int .i64 kind] w fun e w' => (∃ k : Int, e = .returned (.agg (Tk.cells ⟨k, 0, s.extract i (i + nameLen s i), i⟩).toArray) ∧ (k = kind ∨ k = 5) ∧ (greatC (byteC s i) = true → k = kind)) ∧ Keeps w w' := by
  obtain ⟨rp, hrp⟩ : ∃ rp, rp = runC partC s i := ⟨_, rfl⟩
  obtain ⟨rd, hrd⟩ : ∃ rd, rd = runC digitC s (i + rp + 1) := ⟨_, rfl⟩
  obtain ⟨q, hq⟩ : ∃ q, q = byteC s ((i : Int) + rp) := ⟨_, rfl⟩
  obtain ⟨nl, hnl⟩ : ∃ nl, nl = nameLen s i := ⟨_, rfl⟩
  have hle := nameLen_le s i (Nat.le_of_lt hi)
  have hpos := nameLen_pos hp hi
  have hrl : i + rp ≤ s.size := by have := runC_le partC s i; omega
  have hdl : rd ≤ 24 := by have := runC_le digitC s (i + rp + 1); omega
  have hnv : nl = if q = 39 ∧ 0 < rd then rp + (1 + rd) else rp := by
    rw [hnl, nameLen, ← hrp, ← hrd, show ((i + rp : Nat) : Int) = (i : Int) + rp by omega, ← hq]
  rw [← hnl] at hle hpos ⊢
  obtain ⟨wA, hwA⟩ : ∃ wA, wA = w.alloc (.cells #[.int .i64 0, .int .i64 0, .string ⟨#[]⟩, .int .i64 0] 213) := ⟨_, rfl⟩
  have hKA : Keeps w wA := by rw [hwA]; exact Keeps.alloc _ _
  have hA : wA.heap[w.heap.size]? = some (tokObj 0 ⟨#[]⟩ 0) := by rw [hwA]; exact heap_alloc_at _ _
  have c : ∀ W, Keeps wA W → W.cell? ⟨sb, 0, none⟩ = some (.string s) ∧ W.cell? ⟨sb, 1, none⟩ = some (.int .i64 i) ∧ W.cell? ⟨sb, 2, none⟩ = some (.map (some M)) := fun W hW => by
    have := sc_cells ((Keeps.trans hKA hW).at h (fun x => x)); exact ⟨this.1, this.2.1, this.2.2.1⟩
  have hP : ∀ W, Keeps wA W → Calls Tryz.prog 236 #[.pointer (some ⟨sb, 0, none⟩), .int .i64 0, .func (.func 247) #[] #[]] W fun e w' => e = .returned (.int .i64 rp) ∧ Keeps W w' := fun W hW => by
    have := runPart_of s i 0 sb W (c W hW).1 (c W hW).2.1 (by omega) (by omega) (by omega)
    rw [hrp]; exact this
  have hQ : ∀ W, Keeps wA W → Calls Tryz.prog 240 #[.pointer (some ⟨sb, 0, none⟩), .int .i64 rp] W fun e w' => e = .returned (.int .u8 q) ∧ Keeps W w' := fun W hW => by
    rw [hq]; exact peek_of s i rp sb W (c W hW).1 (c W hW).2.1 (by omega) (by omega) (by omega) (by omega)
  have hD : ∀ W, Keeps wA W → Calls Tryz.prog 236 #[.pointer (some ⟨sb, 0, none⟩), .int .i64 ((rp : Int) + 1), .func (.func 241) #[] #[]] W fun e w' => e = .returned (.int .i64 rd) ∧ Keeps W w' := fun W hW => by
    have := runDigit_of s i (rp + 1) sb W (c W hW).1 (c W hW).2.1 (by omega) (by omega) (by omega)
    rw [hrd, show i + rp + 1 = i + (rp + 1) by omega]; exact this
  have hM : ∀ W, Keeps wA W → Calls Tryz.prog 246 #[.pointer (some ⟨sb, 0, none⟩), .int .i64 kind, .int .i64 nl] W fun e w' => e = .returned (.agg (Tk.cells ⟨kind, 0, s.extract i (i + nl), i⟩).toArray) ∧ Keeps W w' := fun W hW =>
    made_of s i nl sb M kind v W ((Keeps.trans hKA hW).at h (fun x => x)) hs hle
  have hL : ∀ W, Keeps wA W → (Instr.lookup 128 (.map (some M)) (.string (s.extract i (i + nl))) true).run Tryz.prog W = .ok (.tuple #[.int .i64 (if isWord m (s.extract i (i + nl)) then 5 else 0), .bool (isWord m (s.extract i (i + nl)))]) W := fun W hW =>
    (hm.keep (Keeps.trans hKA hW) (fun x => x)).look _
  have hsm : isWord m (s.extract i (i + nl)) = true → greatC (byteC s i) = false := fun hw => by
    have := words_small hw
    rwa [extract_first hpos hle] at this
  obtain ⟨tx, htx⟩ : ∃ tx, tx = s.extract i (i + nl) := ⟨_, rfl⟩
  obtain ⟨bw, hbw⟩ : ∃ bw, bw = isWord m tx := ⟨_, rfl⟩
  rw [← htx, ← hbw] at hL hsm
  rw [← htx] at hM ⊢
  have C := Lib.hid c
  have HP := Lib.hid hP
  have HQ := Lib.hid hQ
  have HD := Lib.hid hD
  have HM := Lib.hid hM
  have HL := Lib.hid hL
  have HS := Lib.hid hsm
  have HA := Lib.hid hA
  have HKA := Lib.hid hKA
  have hKnl : (nl : Int) = if q = 39 ∧ 0 < rd then (rp : Int) + (1 + rd) else rp := by rw [hnv]; split <;> omega
  have hszA : w.heap.size < wA.heap.size := heap_lt hA
  clear c hP hQ hD hM hL hsm hnv hq hrp hrd hnl htx hbw h hm hp hA hKA
  have hK : Keeps wA wA := Keeps.refl _
  go_enter Tryz.func244, Tryz.ntmps244
  by_cases h39 : q = 39
  · have h39b : (q == 39) = true := by simp [h39]
    by_cases hd0 : 0 < rd
    · have hd1 : (0 : Int) < rd := by omega
      have e : (nl : Int) = (rp : Int) + (1 + rd) := by rw [hKnl, if_pos ⟨h39, hd0⟩]
      go_wp2_with (go_at_call 236; refine holdL ?_)
      refine Lib.hid ?_
      rw [← hwA]
      refine (HP.out _ hK).mono ?_
      rintro _ w2 ⟨rfl, hk2⟩
      replace hK := Keeps.trans hK hk2
      clear hk2
      go_wp2_with (go_at_call 240; refine holdL ?_)
      refine Lib.hid ?_
      refine (HQ.out _ hK).mono ?_
      rintro _ w3 ⟨rfl, hk2⟩
      replace hK := Keeps.trans hK hk2
      clear hk2
      go_wp2_with (go_at_call 236; refine holdL ?_)
      refine Lib.hid ?_
      refine (HD.out _ hK).mono ?_
      rintro _ w4 ⟨rfl, hk2⟩
      replace hK := Keeps.trans hK hk2
      clear hk2
      go_wp2_with (go_at_call 246; refine holdL ?_)
      refine Lib.hid ?_
      rw [← e]
      refine (HM.out _ hK).mono ?_
      rintro _ w5 ⟨rfl, hk2⟩
      replace hK := Keeps.trans hK hk2
      clear hk2
      simp only [Tk.cells]
      go_wp2_with fail
      have hb7 : (w5.alloc (.cells #[.int .i64 kind, .int .i64 0, .string tx, .int .i64 i] 213)).heap[w5.heap.size]? = some (tokObj kind tx i) := heap_alloc_at w5 (.cells #[.int .i64 kind, .int .i64 0, .string tx, .int .i64 i] 213)
      have hszK := hK.size
      replace hK := Kept.alloc hK (.cells #[.int .i64 kind, .int .i64 0, .string tx, .int .i64 i] 213)
      obtain ⟨W6, hW6⟩ : ∃ W6, W6 = w5.alloc (.cells #[.int .i64 kind, .int .i64 0, .string tx, .int .i64 i] 213) := ⟨_, rfl⟩
      rw [← hW6] at hb7 hK
      rw [← hW6]
      obtain ⟨p7, hp7⟩ : ∃ p7, p7 = w5.heap.size := ⟨_, rfl⟩
      rw [← hp7] at hb7
      rw [← hp7]
      have hlt7 : w.heap.size < p7 := by rw [hp7]; omega
      clear hW6 hp7 hszK
      have hl2 := HL.out _ hK
      obtain ⟨-, -, hc2⟩ := C.out _ hK
      obtain ⟨d0, d1, d2, d3⟩ := tok_cells hb7
      have f0 := tok_free hb7 0
      go_region_held3 (fun W' => W'.cell? ⟨sb, 2, none⟩ = some (.map (some M)) ∧ W'.cell? ⟨p7, 2, none⟩ = some (.string tx) ∧ (Instr.lookup 128 (.map (some M)) (.string tx) true).run Tryz.prog W' = .ok (.tuple #[.int .i64 (if bw then 5 else 0), .bool bw]) W') (first | exact ⟨hc2, d2, HL.out _ (Kept.drew hK)⟩ | go_keep) (first | fail)
      have hA6 : W6.heap[w.heap.size]? = some (tokObj 0 ⟨#[]⟩ 0) := hK.at HA.out (fun x => x)
      have hne : w.heap.size ≠ p7 := Nat.ne_of_lt hlt7
      cases bw with
      | true =>
        have hb8 := tok_set hb7 5
        have hA8 : (W6.setCell ⟨p7, 0, none⟩ (.int .i64 5)).heap[w.heap.size]? = some (tokObj 0 ⟨#[]⟩ 0) := by rw [heap_set_other _ hne]; exact hA6
        obtain ⟨g0, g1, g2, g3⟩ := tok_cells hb8
        obtain ⟨x0, x1, x2, x3⟩ := tok_cells hA8
        have y0 := tok_free hA8 0
        have y1 := tok_free hA8 1
        have y2 := tok_free hA8 2
        have y3 := tok_free hA8 3
        clear hl2
        go_wp2_with fail
        have hb9 := put_tok hA8 5 tx i
        refine bodyPost_ret (tok_results rfl _ _ w.heap.size rfl hb9) rfl ⟨⟨5, rfl, .inr rfl, fun hg => ?_⟩, ?_⟩
        · have h9 := HS.out trivial
          rw [h9] at hg; cases hg
        · exact Kept.drew (keeps_put (keeps_put (keeps_put (keeps_put (keeps_put (Keeps.trans HKA.out hK) (Nat.le_of_lt hlt7) 0 _) (Nat.le_refl _) 0 _) (Nat.le_refl _) 1 _) (Nat.le_refl _) 2 _) (Nat.le_refl _) 3 _)
      | false =>
        obtain ⟨x0, x1, x2, x3⟩ := tok_cells hA6
        have y0 := tok_free hA6 0
        have y1 := tok_free hA6 1
        have y2 := tok_free hA6 2
        have y3 := tok_free hA6 3
        go_wp2_with fail
        have hb9 := put_tok hA6 kind tx i
        refine bodyPost_ret (tok_results rfl _ _ w.heap.size rfl hb9) rfl ⟨⟨kind, rfl, .inl rfl, fun _ => rfl⟩, ?_⟩
        exact Kept.drew (keeps_put (keeps_put (keeps_put (keeps_put (Keeps.trans HKA.out hK) (Nat.le_refl _) 0 _) (Nat.le_refl _) 1 _) (Nat.le_refl _) 2 _) (Nat.le_refl _) 3 _)
    · have hd1 : ¬ (0 : Int) < rd := by omega
      have e : (nl : Int) = (rp : Int) := by rw [hKnl, if_neg (fun h => hd0 h.2)]
      go_wp2_with (go_at_call 236; refine holdL ?_)
      refine Lib.hid ?_
      rw [← hwA]
      refine (HP.out _ hK).mono ?_
      rintro _ w2 ⟨rfl, hk2⟩
      replace hK := Keeps.trans hK hk2
      clear hk2
      go_wp2_with (go_at_call 240; refine holdL ?_)
      refine Lib.hid ?_
      refine (HQ.out _ hK).mono ?_
      rintro _ w3 ⟨rfl, hk2⟩
      replace hK := Keeps.trans hK hk2
      clear hk2
      go_wp2_with (go_at_call 236; refine holdL ?_)
      refine Lib.hid ?_
      refine (HD.out _ hK).mono ?_
      rintro _ w4 ⟨rfl, hk2⟩
      replace hK := Keeps.trans hK hk2
      clear hk2
      go_wp2_with (go_at_call 246; refine holdL ?_)
      refine Lib.hid ?_
      rw [← e]
      refine (HM.out _ hK).mono ?_
      rintro _ w5 ⟨rfl, hk2⟩
      replace hK := Keeps.trans hK hk2
      clear hk2
      simp only [Tk.cells]
      go_wp2_with fail
      have hb7 : (w5.alloc (.cells #[.int .i64 kind, .int .i64 0, .string tx, .int .i64 i] 213)).heap[w5.heap.size]? = some (tokObj kind tx i) := heap_alloc_at w5 (.cells #[.int .i64 kind, .int .i64 0, .string tx, .int .i64 i] 213)
      have hszK := hK.size
      replace hK := Kept.alloc hK (.cells #[.int .i64 kind, .int .i64 0, .string tx, .int .i64 i] 213)
      obtain ⟨W6, hW6⟩ : ∃ W6, W6 = w5.alloc (.cells #[.int .i64 kind, .int .i64 0, .string tx, .int .i64 i] 213) := ⟨_, rfl⟩
      rw [← hW6] at hb7 hK
      rw [← hW6]
      obtain ⟨p7, hp7⟩ : ∃ p7, p7 = w5.heap.size := ⟨_, rfl⟩
      rw [← hp7] at hb7
      rw [← hp7]
      have hlt7 : w.heap.size < p7 := by rw [hp7]; omega
      clear hW6 hp7 hszK
      have hl2 := HL.out _ hK
      obtain ⟨-, -, hc2⟩ := C.out _ hK
      obtain ⟨d0, d1, d2, d3⟩ := tok_cells hb7
      have f0 := tok_free hb7 0
      go_region_held3 (fun W' => W'.cell? ⟨sb, 2, none⟩ = some (.map (some M)) ∧ W'.cell? ⟨p7, 2, none⟩ = some (.string tx) ∧ (Instr.lookup 128 (.map (some M)) (.string tx) true).run Tryz.prog W' = .ok (.tuple #[.int .i64 (if bw then 5 else 0), .bool bw]) W') (first | exact ⟨hc2, d2, HL.out _ (Kept.drew hK)⟩ | go_keep) (first | fail)
      have hA6 : W6.heap[w.heap.size]? = some (tokObj 0 ⟨#[]⟩ 0) := hK.at HA.out (fun x => x)
      have hne : w.heap.size ≠ p7 := Nat.ne_of_lt hlt7
      cases bw with
      | true =>
        have hb8 := tok_set hb7 5
        have hA8 : (W6.setCell ⟨p7, 0, none⟩ (.int .i64 5)).heap[w.heap.size]? = some (tokObj 0 ⟨#[]⟩ 0) := by rw [heap_set_other _ hne]; exact hA6
        obtain ⟨g0, g1, g2, g3⟩ := tok_cells hb8
        obtain ⟨x0, x1, x2, x3⟩ := tok_cells hA8
        have y0 := tok_free hA8 0
        have y1 := tok_free hA8 1
        have y2 := tok_free hA8 2
        have y3 := tok_free hA8 3
        clear hl2
        go_wp2_with fail
        have hb9 := put_tok hA8 5 tx i
        refine bodyPost_ret (tok_results rfl _ _ w.heap.size rfl hb9) rfl ⟨⟨5, rfl, .inr rfl, fun hg => ?_⟩, ?_⟩
        · have h9 := HS.out trivial
          rw [h9] at hg; cases hg
        · exact Kept.drew (keeps_put (keeps_put (keeps_put (keeps_put (keeps_put (Keeps.trans HKA.out hK) (Nat.le_of_lt hlt7) 0 _) (Nat.le_refl _) 0 _) (Nat.le_refl _) 1 _) (Nat.le_refl _) 2 _) (Nat.le_refl _) 3 _)
      | false =>
        obtain ⟨x0, x1, x2, x3⟩ := tok_cells hA6
        have y0 := tok_free hA6 0
        have y1 := tok_free hA6 1
        have y2 := tok_free hA6 2
        have y3 := tok_free hA6 3
        go_wp2_with fail
        have hb9 := put_tok hA6 kind tx i
        refine bodyPost_ret (tok_results rfl _ _ w.heap.size rfl hb9) rfl ⟨⟨kind, rfl, .inl rfl, fun _ => rfl⟩, ?_⟩
        exact Kept.drew (keeps_put (keeps_put (keeps_put (keeps_put (Keeps.trans HKA.out hK) (Nat.le_refl _) 0 _) (Nat.le_refl _) 1 _) (Nat.le_refl _) 2 _) (Nat.le_refl _) 3 _)
  · have h39b : (q == 39) = false := by simp [h39]
    have e : (nl : Int) = (rp : Int) := by rw [hKnl, if_neg (fun h => h39 h.1)]
    go_wp2_with (go_at_call 236; refine holdL ?_)
    refine Lib.hid ?_
    rw [← hwA]
    refine (HP.out _ hK).mono ?_
    rintro _ w2 ⟨rfl, hk2⟩
    replace hK := Keeps.trans hK hk2
    clear hk2
    go_wp2_with (go_at_call 240; refine holdL ?_)
    refine Lib.hid ?_
    refine (HQ.out _ hK).mono ?_
    rintro _ w3 ⟨rfl, hk2⟩
    replace hK := Keeps.trans hK hk2
    clear hk2
    go_wp2_with (go_at_call 246; refine holdL ?_)
    refine Lib.hid ?_
    rw [← e]
    refine (HM.out _ hK).mono ?_
    rintro _ w5 ⟨rfl, hk2⟩
    replace hK := Keeps.trans hK hk2
    clear hk2
    simp only [Tk.cells]
    go_wp2_with fail
    have hb7 : (w5.alloc (.cells #[.int .i64 kind, .int .i64 0, .string tx, .int .i64 i] 213)).heap[w5.heap.size]? = some (tokObj kind tx i) := heap_alloc_at w5 (.cells #[.int .i64 kind, .int .i64 0, .string tx, .int .i64 i] 213)
    have hszK := hK.size
    replace hK := Kept.alloc hK (.cells #[.int .i64 kind, .int .i64 0, .string tx, .int .i64 i] 213)
    obtain ⟨W6, hW6⟩ : ∃ W6, W6 = w5.alloc (.cells #[.int .i64 kind, .int .i64 0, .string tx, .int .i64 i] 213) := ⟨_, rfl⟩
    rw [← hW6] at hb7 hK
    rw [← hW6]
    obtain ⟨p7, hp7⟩ : ∃ p7, p7 = w5.heap.size := ⟨_, rfl⟩
    rw [← hp7] at hb7
    rw [← hp7]
    have hlt7 : w.heap.size < p7 := by rw [hp7]; omega
    clear hW6 hp7 hszK
    have hl2 := HL.out _ hK
    obtain ⟨-, -, hc2⟩ := C.out _ hK
    obtain ⟨d0, d1, d2, d3⟩ := tok_cells hb7
    have f0 := tok_free hb7 0
    go_region_held3 (fun W' => W'.cell? ⟨sb, 2, none⟩ = some (.map (some M)) ∧ W'.cell? ⟨p7, 2, none⟩ = some (.string tx) ∧ (Instr.lookup 128 (.map (some M)) (.string tx) true).run Tryz.prog W' = .ok (.tuple #[.int .i64 (if bw then 5 else 0), .bool bw]) W') (first | exact ⟨hc2, d2, HL.out _ (Kept.drew hK)⟩ | go_keep) (first | fail)
    have hA6 : W6.heap[w.heap.size]? = some (tokObj 0 ⟨#[]⟩ 0) := hK.at HA.out (fun x => x)
    have hne : w.heap.size ≠ p7 := Nat.ne_of_lt hlt7
    cases bw with
    | true =>
      have hb8 := tok_set hb7 5
      have hA8 : (W6.setCell ⟨p7, 0, none⟩ (.int .i64 5)).heap[w.heap.size]? = some (tokObj 0 ⟨#[]⟩ 0) := by rw [heap_set_other _ hne]; exact hA6
      obtain ⟨g0, g1, g2, g3⟩ := tok_cells hb8
      obtain ⟨x0, x1, x2, x3⟩ := tok_cells hA8
      have y0 := tok_free hA8 0
      have y1 := tok_free hA8 1
      have y2 := tok_free hA8 2
      have y3 := tok_free hA8 3
      clear hl2
      go_wp2_with fail
      have hb9 := put_tok hA8 5 tx i
      refine bodyPost_ret (tok_results rfl _ _ w.heap.size rfl hb9) rfl ⟨⟨5, rfl, .inr rfl, fun hg => ?_⟩, ?_⟩
      · have h9 := HS.out trivial
        rw [h9] at hg; cases hg
      · exact Kept.drew (keeps_put (keeps_put (keeps_put (keeps_put (keeps_put (Keeps.trans HKA.out hK) (Nat.le_of_lt hlt7) 0 _) (Nat.le_refl _) 0 _) (Nat.le_refl _) 1 _) (Nat.le_refl _) 2 _) (Nat.le_refl _) 3 _)
    | false =>
      obtain ⟨x0, x1, x2, x3⟩ := tok_cells hA6
      have y0 := tok_free hA6 0
      have y1 := tok_free hA6 1
      have y2 := tok_free hA6 2
      have y3 := tok_free hA6 3
      go_wp2_with fail
      have hb9 := put_tok hA6 kind tx i
      refine bodyPost_ret (tok_results rfl _ _ w.heap.size rfl hb9) rfl ⟨⟨kind, rfl, .inl rfl, fun _ => rfl⟩, ?_⟩
      exact Kept.drew (keeps_put (keeps_put (keeps_put (keeps_put (Keeps.trans HKA.out hK) (Nat.le_refl _) 0 _) (Nat.le_refl _) 1 _) (Nat.le_refl _) 2 _) (Nat.le_refl _) 3 _)
end Go.Proofs.YtfehlbepjmmkeaaGreatDoor
namespace Go.Proofs.YtfehlbepjmmkeaaGreatDoor
open Go.RowKit
theorem refSmall_of (c : Int) (w : World) : Calls Tryz.prog 270 #[.int .u8 c] w fun e w' => e = .returned (.bool (smallC c)) ∧ w' = w := by
  go_enter Tryz.func270, Tryz.ntmps270
  go_wp2
  all_goals go_ret
  all_goals refine ⟨congrArg (fun b => Ending.returned (Value.bool b)) (?_ : _ = _), rfl⟩
  all_goals (rw [Bool.eq_iff_iff]; simp [smallC, *] <;> omega)
theorem refCapital_of (c : Int) (w : World) : Calls Tryz.prog 272 #[.int .u8 c] w fun e w' => e = .returned (.bool (greatC c)) ∧ w' = w := by
  go_enter Tryz.func272, Tryz.ntmps272
  go_wp2
  all_goals go_ret
  all_goals refine ⟨congrArg (fun b => Ending.returned (Value.bool b)) (?_ : _ = _), rfl⟩
  all_goals (rw [Bool.eq_iff_iff]; simp [greatC, *] <;> omega)
theorem refDigit_of (c : Int) (w : World) : Calls Tryz.prog 267 #[.int .u8 c] w fun e w' => e = .returned (.bool (digitC c)) ∧ w' = w := by
  go_enter Tryz.func267, Tryz.ntmps267
  go_wp2
  all_goals go_ret
  all_goals refine ⟨congrArg (fun b => Ending.returned (Value.bool b)) (?_ : _ = _), rfl⟩
  all_goals (rw [Bool.eq_iff_iff]; simp [digitC, *] <;> omega)
theorem refSpace_of (c : Int) (w : World) : Calls Tryz.prog 233 #[.int .u8 c] w fun e w' => e = .returned (.bool (spaceC c)) ∧ w' = w := by
  go_enter Tryz.func233, Tryz.ntmps233
  go_wp2
  all_goals go_ret
  all_goals refine ⟨congrArg (fun b => Ending.returned (Value.bool b)) (?_ : _ = _), rfl⟩
  all_goals (rw [Bool.eq_iff_iff]; simp [spaceC, *] <;> omega)
theorem refInner_of (c : Int) (w : World) : Calls Tryz.prog 269 #[.int .u8 c] w fun e w' => e = .returned (.bool (partC c)) ∧ w' = w := by
  go_enter Tryz.func269, Tryz.ntmps269
  go_wp2_with (first
    | (go_at_call 270; refine (refSmall_of _ _).mono ?_; rintro _ _ ⟨rfl, rfl⟩)
    | (go_at_call 272; refine (refCapital_of _ _).mono ?_; rintro _ _ ⟨rfl, rfl⟩)
    | (go_at_call 267; refine (refDigit_of _ _).mono ?_; rintro _ _ ⟨rfl, rfl⟩))
  all_goals go_ret
  all_goals refine ⟨congrArg (fun b => Ending.returned (Value.bool b)) (?_ : _ = _), rfl⟩
  all_goals (rw [Bool.eq_iff_iff]; simp [partC, *] <;> omega)
end Go.Proofs.YtfehlbepjmmkeaaGreatDoor
namespace Go.Proofs.YtfehlbepjmmkeaaGreatDoor
open Go.RowKit
theorem byteC_nat {s : ByteArray} {j : Nat} (h : j < s.size) : byteC s (j : Nat) = ((s[j]'h).toNat : Int) := by
  rw [byteC, dif_pos (by simpa using h)]
  simp
set_option maxHeartbeats 4000000 in
theorem refPlain_of (s : ByteArray) (i : Nat) (w : World) (hs : s.size ≤ 100) (hi : i ≤ s.size) : Calls Tryz.prog 271 #[.string s, .int .i64 i] w fun e w' => (∃ j : Nat, e = .returned (.int .i64 j) ∧ i ≤ j ∧ j ≤ s.size) ∧ Keeps w w' := by
  go_enter Tryz.func271, Tryz.ntmps271
  go_wp2_with fail
  go_loopw [5] (fun q W => ∃ j : Nat, q = .int .i64 j ∧ i ≤ j ∧ j ≤ s.size ∧ Keeps w W) (fun q _ => s.size - (intOf q).toNat)
  case atStart => exact ⟨i, rfl, Nat.le_refl _, hi, Keeps.refl _⟩
  case round =>
    obtain ⟨j, rfl, h1, h2, hk⟩ := hrel
    by_cases hlt : j < s.size
    · have hlt' : (j : Int) < s.size := by omega
      have hge : (0 : Int) ≤ j := by omega
      go_wp2_with (go_at_call 269; refine (refInner_of _ _).mono ?_; rintro _ _ ⟨rfl, rfl⟩)
      · exact ⟨⟨j + 1, by simp, by omega, by omega, hk⟩, by simp [intOf]; omega⟩
      · go_ret
        exact ⟨⟨j, rfl, h1, h2⟩, hk⟩
    · have hlt' : ¬ (j : Int) < s.size := by omega
      go_wp2_with fail
      go_ret
      exact ⟨⟨j, rfl, h1, h2⟩, hk⟩
set_option maxHeartbeats 8000000 in
set_option maxRecDepth 100000 in
theorem refNamed_of (s : ByteArray) (i : Nat) (w : World) (hs : s.size ≤ 100) (hi : i ≤ s.size) : Calls Tryz.prog 273 #[.string s, .int .i64 i] w fun e w' => e = .returned (.int .i64 ((i + nameLen s i : Nat) : Int)) ∧ Keeps w w' := by
  go_enter Tryz.func273, Tryz.ntmps273
  go_wp2_with fail
  go_loopw [5] (fun q W => ∃ n : Nat, q = .int .i64 ((i + n : Nat) : Int) ∧ runC partC s i = n + runC partC s (i + n) ∧ Keeps w W) (fun q _ => s.size - (intOf q).toNat)
  case atStart => exact ⟨0, by simp, by simp, Keeps.refl _⟩
  case round =>
    obtain ⟨n, rfl, hn, hk⟩ := hrel
    have hb := runC_le partC s i
    obtain ⟨j, hj⟩ : ∃ j, j = i + n := ⟨_, rfl⟩
    rw [← hj] at hn ⊢
    by_cases hlt : j < s.size
    · have hlt' : (j : Int) < s.size := by omega
      have hge : (0 : Int) ≤ j := by omega
      have hby := byteC_nat hlt
      have HN := Lib.hid hn
      have HB := Lib.hid hby
      have HJ := Lib.hid hj
      have HK := Lib.hid hk
      clear hn hby hj hk
      cases hp : partC (s[j]'hlt).toNat with
      | true =>
        go_wp2_with (go_at_call 269; refine (refInner_of _ _).mono ?_; rintro _ _ ⟨rfl, rfl⟩)
        have h9 := runC_yes (is := partC) (s := s) (i := j) hlt (by rw [HB.out]; exact hp)
        refine ⟨⟨n + 1, by rw [HJ.out]; simp; omega, ?_, HK.out⟩, by simp [intOf]; omega⟩
        rw [HN.out, h9, show i + (n + 1) = j + 1 by rw [HJ.out]; omega]; omega
      | false =>
        have h9 := runC_no (is := partC) (s := s) (i := j) (by rw [HB.out]; exact hp)
        go_wp2_with (go_at_call 269; refine (refInner_of _ _).mono ?_; rintro _ _ ⟨rfl, rfl⟩)
        have hrj : runC partC s i + i = j := by rw [HN.out, h9, HJ.out]; omega
        have HRp := Lib.hid (show j = i + runC partC s i by omega)
        have HRj := Lib.hid (show ((i + runC partC s i : Nat) : Int) = j by omega)
        clear hrj h9
        go_loopw [6] (fun q W => ∃ m : Nat, q = .int .i64 ((j + 1 + m : Nat) : Int) ∧ runC digitC s (j + 1) = m + runC digitC s (j + 1 + m) ∧ Keeps w W) (fun q _ => s.size + 1 - (intOf q).toNat)
        case atStart => exact ⟨0, by simp, by simp, HK.out⟩
        case round =>
          obtain ⟨m, rfl, hm, hk⟩ := hrel
          have hbd := runC_le digitC s (j + 1)
          obtain ⟨x, hx⟩ : ∃ x, x = j + 1 + m := ⟨_, rfl⟩
          rw [← hx] at hm ⊢
          have HX := Lib.hid hx
          have HM := Lib.hid hm
          have HK2 := Lib.hid hk
          clear hx hm hk
          by_cases hxl : x < s.size
          · have hxl' : (x : Int) < s.size := by omega
            have hxg : (0 : Int) ≤ x := by omega
            have HBx := Lib.hid (byteC_nat hxl)
            cases hd : digitC (s[x]'hxl).toNat with
            | true =>
              go_wp2_with (go_at_call 267; refine (refDigit_of _ _).mono ?_; rintro _ _ ⟨rfl, rfl⟩)
              have h9 := runC_yes (is := digitC) (s := s) (i := x) hxl (by rw [HBx.out]; exact hd)
              refine ⟨⟨m + 1, by rw [HX.out]; simp; omega, ?_, HK2.out⟩, by simp [intOf]; omega⟩
              rw [HM.out, h9, show j + 1 + (m + 1) = x + 1 by rw [HX.out]; omega]; omega
            | false =>
              have h9 := runC_no (is := digitC) (s := s) (i := x) (by rw [HBx.out]; exact hd)
              have hmd : m = runC digitC s (j + 1) := by rw [HM.out, h9]; omega
              have HMd := Lib.hid hmd
              clear hmd h9
              by_cases h39 : ((s[j]'hlt).toNat : Int) = 39
              · have h39b : (((s[j]'hlt).toNat : Int) == 39) = true := by simp [h39]
                by_cases hm0 : 0 < m
                · have hm1 : (j : Int) + 1 < x := by have := HX.out; omega
                  go_wp2_with (go_at_call 267; refine (refDigit_of _ _).mono ?_; rintro _ _ ⟨rfl, rfl⟩)
                  go_ret
                  refine ⟨congrArg (fun z : Int => Ending.returned (Value.int .i64 z)) (?_ : _ = _), HK2.out⟩
                  have e1 := HX.out
                  have e2 := HRp.out
                  have e3 := HMd.out
                  have e4 : nameLen s i = runC partC s i + (1 + runC digitC s (j + 1)) := by rw [nameLen, ← HRp.out, if_pos ⟨by rw [HB.out]; exact h39, by rw [← HMd.out]; exact hm0⟩]
                  rw [e4]
                  omega
                · have hm1 : ¬ (j : Int) + 1 < x := by have := HX.out; omega
                  go_wp2_with (go_at_call 267; refine (refDigit_of _ _).mono ?_; rintro _ _ ⟨rfl, rfl⟩)
                  go_ret
                  refine ⟨congrArg (fun z : Int => Ending.returned (Value.int .i64 z)) (?_ : _ = _), HK2.out⟩
                  have e1 := HX.out
                  have e2 := HRp.out
                  have e3 := HMd.out
                  have e4 : nameLen s i = runC partC s i := by rw [nameLen, ← HRp.out, if_neg (fun h => hm0 (by rw [HMd.out]; exact h.2))]
                  rw [e4]
                  omega
              · have h39b : (((s[j]'hlt).toNat : Int) == 39) = false := by simp [h39]
                go_wp2_with (go_at_call 267; refine (refDigit_of _ _).mono ?_; rintro _ _ ⟨rfl, rfl⟩)
                go_ret
                refine ⟨congrArg (fun z : Int => Ending.returned (Value.int .i64 z)) (?_ : _ = _), HK2.out⟩
                have e1 := HX.out
                have e2 := HRp.out
                have e3 := HMd.out
                have e4 : nameLen s i = runC partC s i := by rw [nameLen, ← HRp.out, if_neg (fun h => h39 (by rw [← HB.out]; exact h.1))]
                rw [e4]
                omega
          · have hxl' : ¬ (x : Int) < s.size := by omega
            have h9 := runC_end (is := digitC) (s := s) (i := x) (by omega)
            have hmd : m = runC digitC s (j + 1) := by rw [HM.out, h9]; omega
            have HMd := Lib.hid hmd
            clear hmd h9
            by_cases h39 : ((s[j]'hlt).toNat : Int) = 39
            · have h39b : (((s[j]'hlt).toNat : Int) == 39) = true := by simp [h39]
              by_cases hm0 : 0 < m
              · have hm1 : (j : Int) + 1 < x := by have := HX.out; omega
                go_wp2_with fail
                go_ret
                refine ⟨congrArg (fun z : Int => Ending.returned (Value.int .i64 z)) (?_ : _ = _), HK2.out⟩
                have e1 := HX.out
                have e2 := HRp.out
                have e3 := HMd.out
                have e4 : nameLen s i = runC partC s i + (1 + runC digitC s (j + 1)) := by rw [nameLen, ← HRp.out, if_pos ⟨by rw [HB.out]; exact h39, by rw [← HMd.out]; exact hm0⟩]
                rw [e4]
                omega
              · have hm1 : ¬ (j : Int) + 1 < x := by have := HX.out; omega
                go_wp2_with fail
                go_ret
                refine ⟨congrArg (fun z : Int => Ending.returned (Value.int .i64 z)) (?_ : _ = _), HK2.out⟩
                have e1 := HX.out
                have e2 := HRp.out
                have e3 := HMd.out
                have e4 : nameLen s i = runC partC s i := by rw [nameLen, ← HRp.out, if_neg (fun h => hm0 (by rw [HMd.out]; exact h.2))]
                rw [e4]
                omega
            · have h39b : (((s[j]'hlt).toNat : Int) == 39) = false := by simp [h39]
              go_wp2_with fail
              go_ret
              refine ⟨congrArg (fun z : Int => Ending.returned (Value.int .i64 z)) (?_ : _ = _), HK2.out⟩
              have e1 := HX.out
              have e2 := HRp.out
              have e3 := HMd.out
              have e4 : nameLen s i = runC partC s i := by rw [nameLen, ← HRp.out, if_neg (fun h => h39 (by rw [← HB.out]; exact h.1))]
              rw [e4]
              omega
    · have hlt' : ¬ (j : Int) < s.size := by omega
      have h9 := runC_end (is := partC) (s := s) (i := j) (by omega)
      have hjle : j ≤ s.size := by omega
      have HN := Lib.hid hn
      have HJ := Lib.hid hj
      have HK := Lib.hid hk
      clear hn hj hk
      go_wp2_with fail
      have hrj : runC partC s i + i = j := by rw [HN.out, h9, HJ.out]; omega
      have HRp := Lib.hid (show j = i + runC partC s i by omega)
      have HRj := Lib.hid (show ((i + runC partC s i : Nat) : Int) = j by omega)
      clear hrj h9
      go_loopw [6] (fun q W => ∃ m : Nat, q = .int .i64 ((j + 1 + m : Nat) : Int) ∧ runC digitC s (j + 1) = m + runC digitC s (j + 1 + m) ∧ Keeps w W) (fun q _ => s.size + 1 - (intOf q).toNat)
      case atStart => exact ⟨0, by simp, by simp, HK.out⟩
      case round =>
        obtain ⟨m, rfl, hm, hk⟩ := hrel
        have hbd := runC_le digitC s (j + 1)
        obtain ⟨x, hx⟩ : ∃ x, x = j + 1 + m := ⟨_, rfl⟩
        rw [← hx] at hm ⊢
        have HX := Lib.hid hx
        have HM := Lib.hid hm
        have HK2 := Lib.hid hk
        clear hx hm hk
        by_cases hxl : x < s.size
        · have hxl' : (x : Int) < s.size := by omega
          have hxg : (0 : Int) ≤ x := by omega
          have HBx := Lib.hid (byteC_nat hxl)
          cases hd : digitC (s[x]'hxl).toNat with
          | true =>
            go_wp2_with (go_at_call 267; refine (refDigit_of _ _).mono ?_; rintro _ _ ⟨rfl, rfl⟩)
            have h9 := runC_yes (is := digitC) (s := s) (i := x) hxl (by rw [HBx.out]; exact hd)
            refine ⟨⟨m + 1, by rw [HX.out]; simp; omega, ?_, HK2.out⟩, by simp [intOf]; omega⟩
            rw [HM.out, h9, show j + 1 + (m + 1) = x + 1 by rw [HX.out]; omega]; omega
          | false =>
            have h9 := runC_no (is := digitC) (s := s) (i := x) (by rw [HBx.out]; exact hd)
            have hmd : m = runC digitC s (j + 1) := by rw [HM.out, h9]; omega
            have HMd := Lib.hid hmd
            clear hmd h9
            go_wp2_with (go_at_call 267; refine (refDigit_of _ _).mono ?_; rintro _ _ ⟨rfl, rfl⟩)
            go_ret
            refine ⟨congrArg (fun z : Int => Ending.returned (Value.int .i64 z)) (?_ : _ = _), HK2.out⟩
            have e1 := HX.out
            have e2 := HRp.out
            have e3 := HMd.out
            have e4 : nameLen s i = runC partC s i := by rw [nameLen, ← HRp.out, if_neg (fun h => by rw [byteC_end (by omega) (by omega)] at h; exact absurd h.1 (by decide))]
            rw [e4]
            omega
        · have hxl' : ¬ (x : Int) < s.size := by omega
          have h9 := runC_end (is := digitC) (s := s) (i := x) (by omega)
          have hmd : m = runC digitC s (j + 1) := by rw [HM.out, h9]; omega
          have HMd := Lib.hid hmd
          clear hmd h9
          go_wp2_with fail
          go_ret
          refine ⟨congrArg (fun z : Int => Ending.returned (Value.int .i64 z)) (?_ : _ = _), HK2.out⟩
          have e1 := HX.out
          have e2 := HRp.out
          have e3 := HMd.out
          have e4 : nameLen s i = runC partC s i := by rw [nameLen, ← HRp.out, if_neg (fun h => by rw [byteC_end (by omega) (by omega)] at h; exact absurd h.1 (by decide))]
          rw [e4]
          omega
end Go.Proofs.YtfehlbepjmmkeaaGreatDoor
