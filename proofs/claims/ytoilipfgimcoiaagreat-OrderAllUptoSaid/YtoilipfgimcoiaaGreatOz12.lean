/- SzA SzB SzC, joined. -/
import Derived.Test.YtoilipfgimcoiaaGreatOz11
set_option linter.unusedVariables false
set_option linter.unusedSimpArgs false
namespace Go.Proofs.YtoilipfgimcoiaaGreat
open Go Go.RowKit
def cnt (s : Nat) (l : List Sl) : Nat := l.countP fun x => decide (x.s = s)
theorem cnt_nil (s : Nat) : cnt s [] = 0 := rfl
theorem cnt_app (s : Nat) (l m : List Sl) : cnt s (l ++ m) = cnt s l + cnt s m := List.countP_append
theorem cnt_one (s : Nat) (x : Sl) : cnt s [x] = if x.s = s then 1 else 0 := by
 unfold cnt
 by_cases h : x.s = s <;> simp [h]
theorem cnt_le (s : Nat) (l : List Sl) : cnt s l ≤ l.length := List.countP_le_length
theorem cnt_mono (s : Nat) (l : List Sl) {a b : Nat} (h : a ≤ b) : cnt s (l.take a) ≤ cnt s (l.take b) := by
 have e : l.take b = l.take a ++ (l.take b).drop a := by
   have := (List.take_append_drop a (l.take b)).symm
   rwa [List.take_take, Nat.min_eq_left h] at this
 rw [e, cnt_app]; omega
theorem cnt_take (s : Nat) (l : List Sl) (a : Nat) : cnt s (l.take a) ≤ cnt s l := by
 have := cnt_app s (l.take a) (l.drop a)
 rw [List.take_append_drop] at this; omega
theorem take_one {α : Type} {l : List α} {k : Nat} {x : α} (h : l[k]? = some x) : l.take (k + 1) = l.take k ++ [x] := by rw [List.take_add_one, h]; rfl
theorem take_app {α : Type} {l m : List α} {k : Nat} (h : k ≤ l.length) : (l ++ m).take k = l.take k := List.take_append_of_le_length h
def SeqQ (L : List Sl) : Prop := ∀ (p : Nat) (x : Sl), L[p]? = some x → x.q = cnt x.s (L.take p) + 1
theorem SeqQ.nil : SeqQ [] := fun p x hx => by simp at hx
theorem SeqQ.snoc {L : List Sl} (h : SeqQ L) {y : Sl} (hy : y.q = cnt y.s L + 1) : SeqQ (L ++ [y]) := fun p x hx => by
 by_cases hp : p < L.length
 · rw [List.getElem?_append_left hp] at hx
   rw [take_app (by omega)]; exact h p x hx
 · rw [List.getElem?_append_right (by omega)] at hx
   have hp0 := (List.getElem?_eq_some_iff.1 hx).1
   simp at hp0
   obtain rfl : p = L.length := by omega
   rw [Nat.sub_self] at hx
   injection hx with hx
   subst hx
   rw [take_app (by omega), List.take_length]; exact hy
theorem SeqQ.take {L : List Sl} (h : SeqQ L) (k : Nat) : SeqQ (L.take k) := fun p x hx => by
 rw [List.getElem?_take] at hx
 split at hx
 · rename_i hp
   rw [List.take_take, Nat.min_eq_left (by omega)]
   exact h p x hx
 · cases hx
theorem SeqQ.qle {L : List Sl} (h : SeqQ L) {x : Sl} (hx : x ∈ L) : 1 ≤ x.q ∧ x.q ≤ cnt x.s L := by
 obtain ⟨p, hp⟩ := List.mem_iff_getElem?.1 hx
 have h1 := h p x hp
 have h2 := cnt_take x.s L (p + 1)
 rw [take_one hp, cnt_app, cnt_one, if_pos rfl] at h2
 omega
theorem SeqQ.at {L : List Sl} (h : SeqQ L) {p p' : Nat} {x : Sl} (h1 : L[p]? = some x) (h2 : L[p']? = some x) : p = p' := by
 have key : ∀ a b : Nat, a < b → L[a]? = some x → L[b]? = some x → False := fun a b hab ha hb => by
   have e1 := h a x ha
   have e2 := h b x hb
   have e3 : cnt x.s (L.take (a + 1)) ≤ cnt x.s (L.take b) := cnt_mono _ _ (by omega)
   rw [take_one ha, cnt_app, cnt_one, if_pos rfl] at e3
   omega
 rcases Nat.lt_trichotomy p p' with h3 | h3 | h3
 · exact (key _ _ h3 h1 h2).elim
 · exact h3
 · exact (key _ _ h3 h2 h1).elim
theorem SeqQ.nodup {L : List Sl} (h : SeqQ L) : L.Nodup := by
 rw [List.nodup_iff_pairwise_ne, List.pairwise_iff_getElem]
 intro i j hi hj hij e
 have := h.at (List.getElem?_eq_getElem hi) ((List.getElem?_eq_getElem hj).trans (congrArg some e.symm))
 omega
theorem SeqQ.all {L : List Sl} (h : SeqQ L) {s : Nat} : ∀ (k q : Nat), k ≤ L.length → 1 ≤ q → q ≤ cnt s (L.take k) → ⟨s, q⟩ ∈ L.take k
 | 0, q, _, h1, h2 => by rw [List.take_zero, cnt_nil] at h2; omega
 | k + 1, q, hk, h1, h2 => by
   obtain ⟨x, hx⟩ : ∃ x, L[k]? = some x := ⟨_, List.getElem?_eq_getElem (by omega)⟩
   have e := h k x hx
   rw [take_one hx] at h2 ⊢
   rw [cnt_app, cnt_one] at h2
   by_cases hq : q ≤ cnt s (L.take k)
   · exact List.mem_append_left _ (h.all k q (by omega) h1 hq)
   · by_cases hs : x.s = s
     · rw [if_pos hs] at h2
       rw [hs] at e
       refine List.mem_append_right _ (List.mem_singleton.2 ?_)
       obtain ⟨a, b⟩ := x
       simp at hs e
       simp; omega
     · rw [if_neg hs] at h2; omega
theorem SeqQ.mem {L : List Sl} (h : SeqQ L) {x : Sl} : x ∈ L ↔ 1 ≤ x.q ∧ x.q ≤ cnt x.s L := ⟨h.qle, fun ⟨h1, h2⟩ => by
 have := h.all (s := x.s) L.length x.q (Nat.le_refl _) h1 (by rw [List.take_length]; exact h2)
 rwa [List.take_length] at this⟩
def psn (L : List Sl) (x : Sl) : Nat := match L.findIdx? (fun y => decide (y = x)) with
 | some i => i + 1
 | none => 0
theorem psn_zero {L : List Sl} {x : Sl} : psn L x = 0 ↔ x ∉ L := by
 unfold psn
 cases h : L.findIdx? (fun y => decide (y = x)) with
 | none =>
   rw [List.findIdx?_eq_none_iff] at h
   simp only [true_iff]
   intro hx
   have := h x hx
   simp at this
 | some i =>
   obtain ⟨hi, h1, -⟩ := List.findIdx?_eq_some_iff_getElem.1 h
   simp only [Nat.add_eq_zero_iff, Nat.one_ne_zero, and_false, false_iff, Classical.not_not]
   rw [← of_decide_eq_true h1]; exact List.getElem_mem hi
theorem psn_get {L : List Sl} {x : Sl} {p : Nat} (h : psn L x = p + 1) : L[p]? = some x := by
 unfold psn at h
 cases hf : L.findIdx? (fun y => decide (y = x)) with
 | none => rw [hf] at h; cases h
 | some i =>
   rw [hf] at h
   obtain ⟨hi, h1, -⟩ := List.findIdx?_eq_some_iff_getElem.1 hf
   obtain rfl : i = p := by simpa using h
   rw [List.getElem?_eq_getElem hi, of_decide_eq_true h1]
theorem psn_at {L : List Sl} (h : SeqQ L) {x : Sl} {p : Nat} (hp : L[p]? = some x) : psn L x = p + 1 := by
 have hx : psn L x ≠ 0 := fun e => psn_zero.1 e (List.mem_of_getElem? hp)
 obtain ⟨k, hk⟩ := Nat.exists_eq_succ_of_ne_zero hx
 rw [hk, h.at (psn_get hk) hp]
theorem psn_take {L : List Sl} (h : SeqQ L) {x : Sl} {k : Nat} : (psn L x = 0 ∨ k < psn L x) ↔ x ∉ L.take k := by
 cases e : psn L x with
 | zero =>
   refine ⟨fun _ hm => psn_zero.1 e (List.mem_of_mem_take hm), fun _ => .inl rfl⟩
 | succ p =>
   have hg := psn_get e
   constructor
   · intro h1 hm
     obtain ⟨j, hj⟩ := List.mem_iff_getElem?.1 hm
     have hjk := (List.getElem?_eq_some_iff.1 hj).1
     rw [List.length_take] at hjk
     rw [List.getElem?_take_of_lt (by omega)] at hj
     have := h.at hg hj
     omega
   · intro hm
     right
     rcases Nat.lt_or_ge k (p + 1) with hl | hl
     · exact hl
     · refine absurd (List.mem_iff_getElem?.2 ⟨p, ?_⟩) hm
       rw [List.getElem?_take_of_lt (by omega)]; exact hg
theorem psn_snoc {L : List Sl} (x y : Sl) (hy : y ∉ L) : psn (L ++ [y]) x = if x = y then L.length + 1 else psn L x := by
 unfold psn
 rw [List.findIdx?_append]
 by_cases e : x = y
 · subst e
   have h0 : L.findIdx? (fun z => decide (z = x)) = none := by
     rw [List.findIdx?_eq_none_iff]
     intro z hz
     exact decide_eq_false fun e => hy (e ▸ hz)
   rw [h0, if_pos rfl]
   simp
 · rw [if_neg e]
   have h1 : [y].findIdx? (fun z => decide (z = x)) = none := by
     rw [List.findIdx?_eq_none_iff]
     intro z hz
     rw [List.mem_singleton.1 hz]
     exact decide_eq_false fun e2 => e e2.symm
   rw [h1]
   cases L.findIdx? (fun z => decide (z = x)) <;> rfl
structure Rf where
 id : Vd
 mem : List Nat
 self : Nat
 win : Nat
 came : List Dt
 slots : List Sl
 upto : Nat
 known : Nat
 told : List Nat
 saw : List Bool
 stop : Bool
def Rf.C (f : Rf) : List Sl := f.came.map Dt.sl
def Rf.keeps (f : Rf) (d : Dt) : Bool := decide (d.sl ∉ f.slots.take f.known)
def Rf.heldOf (f : Rf) (s : Nat) : Nat := f.came.countP fun d => decide (d.s = s) && f.keeps d
structure Sim (T : Nat) (o : Os) (f : Rf) : Prop where
 id : o.id = f.id
 mem : o.mem = f.mem
 self : o.self = f.self
 win : o.win = f.win
 frz : o.frz = f.stop
 pre : o.pre = f.known
 done : o.done = f.upto
 sl : o.slots = f.slots.drop f.known
 kn : f.known ≤ f.upto
 ul : f.upto ≤ f.slots.length
 tk : ∀ s, o.taken s = cnt s f.C
 pl : ∀ s, o.placed s = cnt s f.slots
 gn : ∀ s, o.gone s = cnt s (f.slots.take f.known)
 tl : f.told.length = f.mem.length
 tt : ∀ (i q : Nat), f.mem[i]? = some q → q ≠ f.self → f.told[i]? = some (o.told q)
 wl : f.saw.length = f.mem.length
 ww : ∀ (i q : Nat), f.mem[i]? = some q → f.saw[i]? = some (o.seen q)
 sn : ∀ q, o.seen q = true → q ∈ f.mem
 hd : o.held = f.came.filter f.keeps
 cq : SeqQ f.C
 cm : ∀ d ∈ f.came, d.s ∈ f.mem
 sq : SeqQ f.slots
 sm : ∀ x ∈ f.slots, x.s ∈ f.mem
 dl : ∀ x ∈ f.slots.take f.upto, x ∈ f.C
 sc : o.seq = true → ∀ x ∈ f.slots, x ∈ f.C
 qu : o.queue = if o.seq = true then f.C.filter (fun x => decide (x ∉ f.slots)) else []
 mi : o.mine = cnt f.self (f.slots.take f.upto)
 m0 : 0 < f.mem.length
 m16 : f.mem.length ≤ 16
 mlt : ∀ q ∈ f.mem, q < 16
 mnd : f.mem.Nodup
 sf : f.self ∈ f.mem
 w1 : 1 ≤ f.win
 w8 : f.win ≤ 8
 bl : ∀ d ∈ f.came, d.b.length ≤ 256
 T1 : f.came.length ≤ T
 T2 : f.slots.length ≤ T
section
variable {T : Nat} {o : Os} {f : Rf}
theorem C_len (f : Rf) : f.C.length = f.came.length := List.length_map _
theorem Sim.known (h : Sim T o f) : o.known = f.slots.length := by
 have h1 := h.kn
 have h2 := h.ul
 unfold Os.known
 rw [h.pre, h.sl, List.length_drop]; omega
theorem Sim.more (h : Sim T o f) {T' : Nat} (ht : T ≤ T') : Sim T' o f :=
 ⟨h.id, h.mem, h.self, h.win, h.frz, h.pre, h.done, h.sl, h.kn, h.ul, h.tk, h.pl, h.gn, h.tl, h.tt, h.wl, h.ww, h.sn, h.hd, h.cq, h.cm, h.sq, h.sm, h.dl, h.sc, h.qu, h.mi, h.m0, h.m16, h.mlt, h.mnd, h.sf, h.w1, h.w8, h.bl, Nat.le_trans h.T1 ht, Nat.le_trans h.T2 ht⟩
theorem Sim.heldOf (h : Sim T o f) (s : Nat) : f.heldOf s + o.gone s = o.taken s := by
 rw [h.gn, h.tk]
 obtain ⟨S, hS⟩ : ∃ S, S = f.slots.take f.known := ⟨_, rfl⟩
 have hSC : ∀ x ∈ S, x ∈ f.C := fun x hx => h.dl x (by
   rw [hS] at hx
   have e : f.slots.take f.known = (f.slots.take f.upto).take f.known := by rw [List.take_take, Nat.min_eq_left h.kn]
   rw [e] at hx
   exact List.mem_of_mem_take hx)
 have e1 : f.heldOf s = f.C.countP fun x => decide (x.s = s) && decide (x ∉ S) := by
   unfold Rf.heldOf Rf.C Rf.keeps
   rw [List.countP_map, hS]
   rfl
 have e2 : f.C.countP (fun x => decide (x.s = s) && decide (x ∈ S)) = cnt s S := by
   unfold cnt
   rw [List.countP_eq_length_filter, List.countP_eq_length_filter]
   refine (perm_nodup _ _ (h.cq.nodup.filter _) ?_ fun a => ?_).length_eq
   · rw [hS]; exact ((h.sq.take f.known).nodup).filter _
   · simp only [List.mem_filter, Bool.and_eq_true, decide_eq_true_eq]
     exact ⟨fun ⟨_, h1, h2⟩ => ⟨h2, h1⟩, fun ⟨h1, h2⟩ => ⟨hSC a h1, h2, h1⟩⟩
 rw [← hS, e1, ← e2]
 unfold cnt
 simp only [decide_not]
 generalize f.C = l
 induction l with
 | nil => rfl
 | cons x l ih =>
   simp only [List.countP_cons]
   by_cases a : x.s = s <;> by_cases b : x ∈ S <;> simp [a, b] <;> omega
theorem Sim.free (h : Sim T o f) : o.free = if f.stop = true then 0 else (f.win : Int) - (f.heldOf f.self : Nat) := by
 have h1 := h.heldOf f.self
 unfold Os.free
 rw [h.frz, h.win, h.self]
 split
 · rfl
 · omega
end
end Go.Proofs.YtoilipfgimcoiaaGreat
namespace Go.Proofs.YtoilipfgimcoiaaGreat
open Go Go.RowKit
def Rf.rise (f : Rf) (n : Nat) : Rf := { f with known := max f.known n }
def Rf.come (f : Rf) (d : Dt) : Rf := { f with came := f.came ++ [d] }
def Rf.place (f : Rf) (x : Sl) : Rf := { f with slots := f.slots ++ [x] }
def Rf.heard (f : Rf) (i d : Nat) : Rf := { f with saw := f.saw.set i true, told := f.told.set i (max ((f.told[i]?).getD 0) d) }
def Rf.new (id : Vd) (mem : List Nat) (self win : Nat) : Rf := ⟨id, mem, self, win, [], [], 0, 0, mem.map fun _ => 0, mem.map fun q => decide (q = self), false⟩
section
variable {T : Nat} {o : Os} {f : Rf}
theorem Sim.rise1 (h : Sim T o f) (hp : f.known < f.upto) : Sim T o.rise1 { f with known := f.known + 1 } := by
 have hul := h.ul
 obtain ⟨x, hx⟩ : ∃ x, f.slots[f.known]? = some x := ⟨_, List.getElem?_eq_getElem (by omega)⟩
 have hs : o.slots = x :: f.slots.drop (f.known + 1) := by
   rw [h.sl, List.drop_eq_getElem_cons (by omega)]
   congr 1
   exact (List.getElem?_eq_some_iff.1 hx).2
 have ht := take_one hx
 rw [rise1_cons hs]
 refine ⟨h.id, h.mem, h.self, h.win, h.frz, by show o.pre + 1 = f.known + 1; rw [h.pre], h.done, rfl, hp, h.ul, h.tk, h.pl, fun s => ?_, h.tl, h.tt, h.wl, h.ww, h.sn, ?_, h.cq, h.cm, h.sq, h.sm, h.dl, h.sc, h.qu, h.mi, h.m0, h.m16, h.mlt, h.mnd, h.sf, h.w1, h.w8, h.bl, h.T1, h.T2⟩
 · show upN o.gone x.s (o.gone x.s + 1) s = cnt s (f.slots.take (f.known + 1))
   rw [ht, cnt_app, cnt_one]
   unfold upN
   by_cases e : s = x.s
   · rw [if_pos e, if_pos e.symm, h.gn, e]
   · rw [if_neg e, if_neg (fun e2 => e e2.symm), h.gn]; rfl
 · show o.held.filter _ = f.came.filter (fun d => decide (d.sl ∉ f.slots.take (f.known + 1)))
   rw [h.hd, List.filter_filter, ht]
   congr 1
   funext d
   unfold Rf.keeps
   by_cases a : d.sl = x <;> by_cases b : d.sl ∈ f.slots.take f.known <;> simp [a, b]
theorem Sim.riseK (h : Sim T o f) : ∀ k, f.known + k ≤ f.upto → Sim T (o.riseK k) { f with known := f.known + k }
 | 0, _ => h
 | k + 1, hk => (h.riseK k (by omega)).rise1 (show f.known + k < f.upto by omega)
theorem Sim.rise (h : Sim T o f) {n : Nat} (hn : n ≤ f.upto) : Sim T (o.rise n) (f.rise n) := by
 have h1 := h.kn
 have := h.riseK (n - o.pre) (by rw [h.pre]; omega)
 unfold Os.rise Rf.rise
 rw [show max f.known n = f.known + (n - o.pre) by rw [h.pre]; omega]
 exact this
theorem Sim.notC (h : Sim T o f) {x : Sl} (hq : x.q = o.taken x.s + 1) : x ∉ f.C := fun hm => by
 have := (h.cq.mem.1 hm).2
 rw [← h.tk] at this
 omega
theorem Sim.keep (h : Sim T o f) {d : Dt} (hs : d.s ∈ f.mem) (hq : d.q = o.taken d.s + 1) (hb : d.b.length ≤ 256) (hT : f.came.length + 1 ≤ T) : Sim T (o.keep d) (f.come d) := by
 have hC : (f.come d).C = f.C ++ [d.sl] := by unfold Rf.C Rf.come; rw [List.map_append]; rfl
 have hn : d.sl ∉ f.C := h.notC hq
 have hk : f.keeps d = true := decide_eq_true fun hm => hn (h.dl _ (by
   have e : f.slots.take f.known = (f.slots.take f.upto).take f.known := by rw [List.take_take, Nat.min_eq_left h.kn]
   rw [e] at hm
   exact List.mem_of_mem_take hm))
 refine ⟨h.id, h.mem, h.self, h.win, h.frz, h.pre, h.done, h.sl, h.kn, h.ul, fun s => ?_, h.pl, h.gn, h.tl, h.tt, h.wl, h.ww, h.sn, ?_, ?_, fun e he => ?_, h.sq, h.sm, fun x hx => ?_, fun hse x hx => ?_, ?_, h.mi, h.m0, h.m16, h.mlt, h.mnd, h.sf, h.w1, h.w8, fun e he => ?_, ?_, h.T2⟩
 · show upN o.taken d.s d.q s = _
   rw [hC, cnt_app, cnt_one]
   unfold upN
   by_cases e : s = d.s
   · rw [if_pos e, if_pos (show d.sl.s = s from e.symm), hq, h.tk, e]
   · rw [if_neg e, if_neg (fun e2 => e (show s = d.s from e2.symm)), h.tk]; rfl
 · show o.held ++ [d] = (f.came ++ [d]).filter f.keeps
   rw [List.filter_append, h.hd]
   simp [hk]
 · rw [hC]; exact h.cq.snoc (by show d.q = _; rw [hq, h.tk]; rfl)
 · rcases List.mem_append.1 he with he | he
   · exact h.cm e he
   · rw [List.mem_singleton.1 he]; exact hs
 · rw [hC]; exact List.mem_append_left _ (h.dl x hx)
 · rw [hC]; exact List.mem_append_left _ (h.sc hse x hx)
 · show (if o.seq = true then o.queue ++ [d.sl] else o.queue) = if o.seq = true then (f.come d).C.filter (fun x => decide (x ∉ f.slots)) else []
   rw [hC, h.qu]
   by_cases e : o.seq = true
   · rw [if_pos e, if_pos e, if_pos e, List.filter_append]
     have : d.sl ∉ f.slots := fun hm => hn (h.sc e _ hm)
     simp [this]
   · rw [if_neg e, if_neg e, if_neg e]
 · rcases List.mem_append.1 he with he | he
   · exact h.bl e he
   · rw [List.mem_singleton.1 he]; exact hb
 · show (f.came ++ [d]).length ≤ T
   rw [List.length_append]; exact hT
theorem Sim.put (h : Sim T o f) {x : Sl} (o' : Os) (q : List Sl) (ho : o' = { o with slots := o.slots ++ [x], placed := upN o.placed x.s (o.placed x.s + 1), queue := q }) (hs : x.s ∈ f.mem) (hq : x.q = cnt x.s f.slots + 1) (hT : f.slots.length + 1 ≤ T)
   (hsc : o.seq = true → x ∈ f.C) (hqu : q = if o.seq = true then f.C.filter (fun y => decide (y ∉ f.slots ++ [x])) else []) : Sim T o' (f.place x) := by
 subst ho
 have h1 := h.kn
 have h2 := h.ul
 refine ⟨h.id, h.mem, h.self, h.win, h.frz, h.pre, h.done, ?_, h.kn, ?_, h.tk, fun s => ?_, fun s => ?_, h.tl, h.tt, h.wl, h.ww, h.sn, ?_, h.cq, h.cm, h.sq.snoc hq, fun y hy => ?_, fun y hy => ?_, fun e y hy => ?_, hqu, ?_, h.m0, h.m16, h.mlt, h.mnd, h.sf, h.w1, h.w8, h.bl, h.T1, ?_⟩
 · show o.slots ++ [x] = (f.slots ++ [x]).drop f.known
   rw [List.drop_append_of_le_length (by omega), h.sl]
 · show f.upto ≤ (f.slots ++ [x]).length
   rw [List.length_append]; omega
 · show upN o.placed x.s (o.placed x.s + 1) s = cnt s (f.slots ++ [x])
   rw [cnt_app, cnt_one]
   unfold upN
   by_cases e : s = x.s
   · rw [if_pos e, if_pos e.symm, h.pl, e]
   · rw [if_neg e, if_neg (fun e2 => e e2.symm), h.pl]; rfl
 · show o.gone s = cnt s ((f.slots ++ [x]).take f.known)
   rw [take_app (by omega), h.gn]
 · show o.held = f.came.filter (fun d => decide (d.sl ∉ (f.slots ++ [x]).take f.known))
   rw [take_app (by omega)]; exact h.hd
 · rcases List.mem_append.1 hy with hy | hy
   · exact h.sm y hy
   · rw [List.mem_singleton.1 hy]; exact hs
 · have hy : y ∈ (f.slots ++ [x]).take f.upto := hy
   rw [take_app (by omega)] at hy
   exact h.dl y hy
 · rcases List.mem_append.1 hy with hy | hy
   · exact h.sc e y hy
   · rw [List.mem_singleton.1 hy]; exact hsc e
 · show o.mine = cnt f.self ((f.slots ++ [x]).take f.upto)
   rw [take_app (by omega)]; exact h.mi
 · show (f.slots ++ [x]).length ≤ T
   rw [List.length_append]; exact hT
theorem Sim.stand (h : Sim T o f) (hse : o.seq = false) {x : Sl} (hs : x.s ∈ f.mem) (hq : x.q = o.placed x.s + 1) (hT : f.slots.length + 1 ≤ T) : Sim T (o.stand x) (f.place x) :=
 h.put _ o.queue rfl hs (by rw [hq, h.pl]) hT (fun e => by rw [hse] at e; cases e) (by rw [h.qu, hse]; rfl)
theorem Sim.asg1 (h : Sim T o f) (hse : o.seq = true) {x : Sl} {q : List Sl} (hq : o.queue = x :: q) (hT : f.slots.length + 1 ≤ T) : Sim T o.asg1 (f.place x) ∧ x ∈ f.C ∧ x ∉ f.slots := by
 have hqu := h.qu
 rw [if_pos hse, hq] at hqu
 obtain ⟨L1, L2, hC, hL1, hx, hL2⟩ := List.filter_eq_cons_iff.1 hqu.symm
 have hxs : x ∉ f.slots := of_decide_eq_true hx
 have hxC : x ∈ f.C := by rw [hC]; exact List.mem_append_right _ List.mem_cons_self
 have hp : f.C[L1.length]? = some x := by rw [hC]; simp
 have hxq := h.cq L1.length x hp
 have htk : f.C.take L1.length = L1 := by rw [hC]; simp
 have hqq : x.q = cnt x.s f.slots + 1 := by
   have a1 : ¬ (1 ≤ x.q ∧ x.q ≤ cnt x.s f.slots) := fun e => hxs (h.sq.mem.2 e)
   rcases Nat.lt_or_ge (cnt x.s f.slots + 1) x.q with hlt | hge
   · exfalso
     have hy := h.cq.all (s := x.s) L1.length (cnt x.s f.slots + 1) (by rw [hC]; simp) (by omega) (by omega)
     rw [htk] at hy
     have := hL1 _ hy
     refine this (decide_eq_true fun hm => ?_)
     have := (h.sq.mem.1 hm).2
     simp only at this
     omega
   · omega
 refine ⟨?_, hxC, hxs⟩
 rw [asg1_cons hq]
 refine h.put _ q rfl ?_ hqq hT (fun _ => hxC) ?_
 · obtain ⟨d, hd, rfl⟩ := List.mem_map.1 hxC
   exact h.cm d hd
 · rw [if_pos hse]
   have e1 : f.C.filter (fun y => decide (y ∉ f.slots ++ [x])) = (f.C.filter (fun y => decide (y ∉ f.slots))).filter (fun y => decide (y ≠ x)) := by
     rw [List.filter_filter]
     congr 1
     funext y
     by_cases a : y = x <;> by_cases b : y ∈ f.slots <;> simp [a, b]
   rw [e1, ← hqu]
   have hnd : (x :: q).Nodup := by rw [hqu]; exact h.cq.nodup.filter _
   have hxq2 := (List.nodup_cons.1 hnd).1
   simp only [List.filter_cons, ne_eq, not_true_eq_false, decide_false, Bool.false_eq_true, if_false]
   refine (List.filter_eq_self.2 fun y hy => ?_).symm
   simp only [decide_eq_true_eq]
   exact fun e => hxq2 (e ▸ hy)
theorem Sim.next (h : Sim T o f) {x : Sl} {d : Dt} (hx : f.slots[f.upto]? = some x) (hd : d ∈ f.came) (hdx : d.sl = x) :
   o.next = some (⟨f.upto + 1, d.s, d.q, d.b⟩, { o with done := o.done + 1, mine := if x.s = o.self then o.mine + 1 else o.mine }) ∧ Sim T { o with done := o.done + 1, mine := if x.s = o.self then o.mine + 1 else o.mine } { f with upto := f.upto + 1 } := by
 have hlt := (List.getElem?_eq_some_iff.1 hx).1
 have h1 := h.kn
 have hxC : x ∈ f.C := by rw [← hdx]; exact List.mem_map_of_mem hd
 have hkeep : f.keeps d = true := decide_eq_true fun hm => by
   rw [hdx] at hm
   exact psn_take (h.sq) |>.1 (.inr (by rw [psn_at h.sq hx]; omega)) hm
 have hfind : o.held.find? (fun e => decide (e.sl = x)) = some d := by
   rw [h.hd, List.find?_filter]
   have hnd : (f.came.map Dt.sl).Nodup := h.cq.nodup
   have key : ∀ l : List Dt, (l.map Dt.sl).Nodup → d ∈ l → l.find? (fun e => decide (f.keeps e = true ∧ decide (e.sl = x) = true)) = some d := fun l => by
     induction l with
     | nil => intro _ hm; cases hm
     | cons e l ih =>
       intro hn hm
       rw [List.map_cons, List.nodup_cons] at hn
       rcases List.mem_cons.1 hm with rfl | hm
       · rw [List.find?_cons_of_pos]
         simp [hkeep, hdx]
       · rw [List.find?_cons_of_neg]
         · exact ih hn.2 hm
         · simp only [decide_eq_true_eq, not_and]
           intro _ e2
           exact hn.1 (by rw [e2, ← hdx]; exact List.mem_map_of_mem hm)
   exact key f.came hnd hd
 have hslot : o.slots[o.done - o.pre]? = some x := by
   rw [h.sl, h.done, h.pre, List.getElem?_drop, show f.known + (f.upto - f.known) = f.upto by omega]; exact hx
 have hk : o.done < o.known := by rw [h.known, h.done]; exact hlt
 have hxs : x.s = d.s := by rw [← hdx]; rfl
 have hxq : x.q = d.q := by rw [← hdx]; rfl
 refine ⟨by rw [next_some hk hslot hfind, h.done, hxs, hxq], ?_⟩
 refine ⟨h.id, h.mem, h.self, h.win, h.frz, h.pre, by show o.done + 1 = f.upto + 1; rw [h.done], h.sl, by show f.known ≤ f.upto + 1; omega, hlt, h.tk, h.pl, h.gn, h.tl, h.tt, h.wl, h.ww, h.sn, h.hd, h.cq, h.cm, h.sq, h.sm, fun y hy => ?_, h.sc, h.qu, ?_, h.m0, h.m16, h.mlt, h.mnd, h.sf, h.w1, h.w8, h.bl, h.T1, h.T2⟩
 · have hy : y ∈ f.slots.take (f.upto + 1) := hy
   rw [take_one hx] at hy
   rcases List.mem_append.1 hy with hy | hy
   · exact h.dl y hy
   · rw [List.mem_singleton.1 hy]; exact hxC
 · show (if x.s = o.self then o.mine + 1 else o.mine) = cnt f.self (f.slots.take (f.upto + 1))
   rw [take_one hx, cnt_app, cnt_one, ← h.mi, h.self]
   split <;> rfl
theorem Sim.next_none (h : Sim T o f) (hn : ∀ x, f.slots[f.upto]? = some x → ∀ d ∈ f.came, d.sl ≠ x) : o.next = none := by
 by_cases hk : o.done < o.known
 · have h1 := h.kn
   obtain ⟨x, hx⟩ : ∃ x, f.slots[f.upto]? = some x := ⟨_, List.getElem?_eq_getElem (by rw [h.known, h.done] at hk; exact hk)⟩
   have hslot : o.slots[o.done - o.pre]? = some x := by
     rw [h.sl, h.done, h.pre, List.getElem?_drop, show f.known + (f.upto - f.known) = f.upto by omega]; exact hx
   refine next_lack hslot (List.find?_eq_none.2 fun d hd => ?_)
   rw [h.hd] at hd
   simp only [decide_eq_true_eq]
   exact hn x hx d (List.mem_filter.1 hd).1
 · exact next_done hk
theorem Dlv.uniq {o : Os} : ∀ {a b : List Mg} {p q : Os}, Dlv o a p → Dlv o b q → a.length = b.length → a = b ∧ p = q := by
 intro a b p q h
 induction h generalizing b q with
 | nil =>
   intro h2 hl
   cases h2 with
   | nil => exact ⟨rfl, rfl⟩
   | snoc _ _ => simp at hl
 | snoc h hn ih =>
   intro h2 hl
   cases h2 with
   | nil => simp at hl
   | snoc h3 hn3 =>
     rw [List.length_append, List.length_append] at hl
     obtain ⟨rfl, rfl⟩ := ih h3 (by simpa using hl)
     rw [hn] at hn3
     injection hn3 with e
     injection e with e1 e2
     exact ⟨by rw [e1], e2⟩
theorem Dlv.prev {o : Os} : ∀ {b : List Mg} {q : Os}, Dlv o b q → ∀ k, k < b.length → ∃ p m p', Dlv o (b.take k) p ∧ p.next = some (m, p') := by
 intro b q h
 induction h with
 | nil => intro k hk; simp at hk
 | @snoc ms o' o'' m h hn ih =>
   intro k hk
   rw [List.length_append, List.length_singleton] at hk
   by_cases e : k < ms.length
   · obtain ⟨p, m', p', h1, h2⟩ := ih k e
     exact ⟨p, m', p', by rw [take_app (by omega)]; exact h1, h2⟩
   · obtain rfl : k = ms.length := by omega
     exact ⟨o', m, o'', by rw [take_app (by omega), List.take_length]; exact h, hn⟩
theorem DvAns.uniq {o : Os} {n : Int} {a b : List Mg} {p q : Os} (h1 : DvAns o n a p) (h2 : DvAns o n b q) : a = b ∧ p = q := by
 rcases h1 with ⟨hf, rfl, rfl⟩ | ⟨hf, hn, o1, d1, c1, -, rfl⟩
 · rcases h2 with ⟨-, rfl, rfl⟩ | ⟨hf2, hn2, -⟩
   · exact ⟨rfl, rfl⟩
   · rcases hf with hf | hf
     · rw [hf2] at hf; cases hf
     · omega
 · rcases h2 with ⟨hf2, -, -⟩ | ⟨hf2, hn2, o2, d2, c2, -, rfl⟩
   · rcases hf2 with hf2 | hf2
     · rw [hf] at hf2; cases hf2
     · omega
   · have hl : a.length = b.length := by
       rcases Nat.lt_trichotomy a.length b.length with h | h | h
       · rcases c1 with c1 | ⟨-, c1⟩
         · rcases c2 with c2 | ⟨c2, -⟩ <;> omega
         · obtain ⟨p, m, p', h3, h4⟩ := d2.prev a.length h
           obtain ⟨-, rfl⟩ := d1.uniq h3 (by rw [List.length_take]; omega)
           rw [c1] at h4; cases h4
       · exact h
       · rcases c2 with c2 | ⟨-, c2⟩
         · rcases c1 with c1 | ⟨c1, -⟩ <;> omega
         · obtain ⟨p, m, p', h3, h4⟩ := d1.prev b.length h
           obtain ⟨-, rfl⟩ := d2.uniq h3 (by rw [List.length_take]; omega)
           rw [c2] at h4; cases h4
     obtain ⟨rfl, rfl⟩ := d1.uniq d2 hl
     exact ⟨rfl, rfl⟩
theorem Sim.heard (h : Sim T o f) {i q : Nat} (hi : f.mem[i]? = some q) (hq : q ≠ f.self) (d : Nat) : Sim T (o.heard q d) (f.heard i d) := by
 have hil := (List.getElem?_eq_some_iff.1 hi).1
 have hti := h.tt i q hi hq
 have uniq : ∀ j p, f.mem[j]? = some p → p = q → j = i := fun j p hj e => by
   subst e
   obtain ⟨a1, a2⟩ := List.getElem?_eq_some_iff.1 hj
   obtain ⟨b1, b2⟩ := List.getElem?_eq_some_iff.1 hi
   exact (List.getElem_inj (h₀ := a1) (h₁ := b1) h.mnd).1 (a2.trans b2.symm)
 refine ⟨h.id, h.mem, h.self, h.win, h.frz, h.pre, h.done, h.sl, h.kn, h.ul, h.tk, h.pl, h.gn, by show (f.told.set _ _).length = _; rw [List.length_set]; exact h.tl, fun j p hj hp => ?_, by show (f.saw.set _ _).length = _; rw [List.length_set]; exact h.wl, fun j p hj => ?_, fun p hp => ?_, h.hd, h.cq, h.cm, h.sq, h.sm, h.dl, h.sc, h.qu, h.mi, h.m0, h.m16, h.mlt, h.mnd, h.sf, h.w1, h.w8, h.bl, h.T1, h.T2⟩
 · show (f.told.set i (max ((f.told[i]?).getD 0) d))[j]? = some (upN o.told q (max (o.told q) d) p)
   by_cases e : j = i
   · subst e
     have hj : f.mem[j]? = some p := hj
     rw [hi] at hj
     injection hj with hj
     subst hj
     rw [List.getElem?_set_self (by rw [h.tl]; exact hil), hti, upN_same]; rfl
   · rw [List.getElem?_set_ne (fun e2 => e e2.symm), upN_ne _ _ (fun e2 => e (uniq j p hj e2))]
     exact h.tt j p hj hp
 · show (f.saw.set i true)[j]? = some (upN o.seen q true p)
   by_cases e : j = i
   · subst e
     have hj : f.mem[j]? = some p := hj
     rw [hi] at hj
     injection hj with hj
     subst hj
     rw [List.getElem?_set_self (by rw [h.wl]; exact hil), upN_same]
   · rw [List.getElem?_set_ne (fun e2 => e e2.symm), upN_ne _ _ (fun e2 => e (uniq j p hj e2))]
     exact h.ww j p hj
 · have hp : upN o.seen q true p = true := hp
   by_cases e : p = q
   · rw [e]; exact List.mem_of_getElem? hi
   · rw [upN_ne _ _ e] at hp; exact h.sn p hp
theorem Sim.freeze (h : Sim T o f) : Sim T { o with frz := true } { f with stop := true } :=
 ⟨h.id, h.mem, h.self, h.win, rfl, h.pre, h.done, h.sl, h.kn, h.ul, h.tk, h.pl, h.gn, h.tl, h.tt, h.wl, h.ww, h.sn, h.hd, h.cq, h.cm, h.sq, h.sm, h.dl, h.sc, h.qu, h.mi, h.m0, h.m16, h.mlt, h.mnd, h.sf, h.w1, h.w8, h.bl, h.T1, h.T2⟩
theorem Sim.new {id : Vd} {mem : List Nat} {self win : Nat} (m0 : 0 < mem.length) (m16 : mem.length ≤ 16) (mlt : ∀ q ∈ mem, q < 16) (mnd : mem.Nodup) (sf : self ∈ mem) (w1 : 1 ≤ win) (w8 : win ≤ 8) : Sim T (Os.new id mem self win) (Rf.new id mem self win) := by
 refine ⟨rfl, rfl, rfl, rfl, rfl, rfl, rfl, rfl, Nat.le_refl _, Nat.le_refl _, fun _ => rfl, fun _ => rfl, fun _ => rfl, by show (mem.map _).length = _; rw [List.length_map]; rfl, fun i q hi _ => ?_, by show (mem.map _).length = _; rw [List.length_map]; rfl, fun i q hi => ?_, fun q hq => ?_, rfl, .nil, fun d hd => (List.not_mem_nil hd).elim, .nil, fun x hx => (List.not_mem_nil hx).elim, fun x hx => ?_, fun _ x hx => (List.not_mem_nil hx).elim, ?_, rfl, m0, m16, mlt, mnd, sf, w1, w8, fun d hd => (List.not_mem_nil hd).elim, Nat.zero_le _, Nat.zero_le _⟩
 · show (mem.map fun _ => 0)[i]? = _
   have hi : mem[i]? = some q := hi
   rw [List.getElem?_map, hi]; rfl
 · show (mem.map fun q => decide (q = self))[i]? = some (upN (fun _ => false) self true q)
   have hi : mem[i]? = some q := hi
   rw [List.getElem?_map, hi]
   unfold upN
   by_cases e : q = self <;> simp [e]
 · have hq : upN (fun _ => false) self true q = true := hq
   unfold upN at hq
   split at hq
   · rename_i e; rw [e]; exact sf
   · cases hq
 · have hx : x ∈ ([] : List Sl).take 0 := hx
   simp at hx
 · show ([] : List Sl) = if _ then ([] : List Sl).filter _ else []
   split <;> rfl
theorem Sim.wf (h : Sim T o f) (hT : T ≤ 100000) : WfO o := by
 have t1 := h.T1
 have t2 := h.T2
 have hk := h.known
 have hkn := h.kn
 have hul := h.ul
 have cl := C_len f
 have ctk : ∀ s, o.taken s ≤ T := fun s => by rw [h.tk]; have := cnt_le s f.C; omega
 have cpl : ∀ s, o.placed s ≤ T := fun s => by rw [h.pl]; have := cnt_le s f.slots; omega
 have sl_ : ∀ x ∈ f.slots, x.s < 16 ∧ x.q ≤ 1000000000 := fun x hx => ⟨h.mlt _ (h.sm x hx), by have := (h.sq.qle hx).2; have := cnt_le x.s f.slots; omega⟩
 have c_ : ∀ x ∈ f.C, x.s < 16 ∧ x.q ≤ 1000000000 := fun x hx => ⟨by
   obtain ⟨d, hd, rfl⟩ := List.mem_map.1 hx
   exact h.mlt _ (h.cm d hd), by have := (h.cq.qle hx).2; have := cnt_le x.s f.C; omega⟩
 have hsub : ∀ d ∈ o.held, d ∈ f.came := fun d hd => by rw [h.hd] at hd; exact (List.mem_filter.1 hd).1
 have hqs : ∀ x ∈ o.queue, x ∈ f.C := fun x hx => by
   rw [h.qu] at hx
   split at hx
   · exact (List.mem_filter.1 hx).1
   · cases hx
 have hql : o.queue.length ≤ T := by
   rw [h.qu]
   split
   · have := List.length_filter_le (fun x => decide (x ∉ f.slots)) f.C; omega
   · exact Nat.zero_le _
 refine ⟨by rw [h.mem]; exact h.m0, by rw [h.mem]; exact h.m16, by rw [h.mem]; exact h.mlt, by rw [h.win]; exact h.w8, by rw [h.self]; exact h.mlt _ h.sf, fun x hx => sl_ x ?_, fun x hx => c_ x (hqs x hx), by omega, fun d hd => c_ d.sl (List.mem_map_of_mem (hsub d hd)), ?_, fun d hd => ?_, fun s => by have := ctk s; omega, fun s => by have := cpl s; omega, fun s => ?_, by omega, by rw [h.done]; omega, ?_⟩
 · rw [h.sl] at hx; exact List.mem_of_mem_drop hx
 · rw [h.hd]; exact List.Nodup.sublist (List.Sublist.map _ List.filter_sublist) h.cq.nodup
 · have := (h.cq.qle (List.mem_map_of_mem (f := Dt.sl) (hsub d hd))).2
   rw [h.tk]; exact this
 · rw [h.gn, h.sl, List.length_drop]
   have := cnt_le s (f.slots.take f.known)
   rw [List.length_take] at this
   omega
 · rw [h.mi]
   have := cnt_le f.self (f.slots.take f.upto)
   rw [List.length_take] at this
   omega
theorem Sim.ql (h : Sim T o f) : o.queue.length ≤ T := by
 have t1 := h.T1
 have cl := C_len f
 rw [h.qu]
 split
 · have := List.length_filter_le (fun x => decide (x ∉ f.slots)) f.C; omega
 · exact Nat.zero_le _
theorem Sim.rm (h : Sim T o f) (hT : T ≤ 100000) : Rm o := by
 have t1 := h.T1
 have t2 := h.T2
 have cl := C_len f
 have q := h.ql
 exact ⟨by rw [h.known, h.done]; exact h.ul, fun s => by rw [h.tk]; have := cnt_le s f.C; omega, fun s => by rw [h.pl]; have := cnt_le s f.slots; omega, by omega⟩
theorem Sim.rmA (h : Sim T o f) (hT : T ≤ 100000) : RmA o := by
 have t2 := h.T2
 have q := h.ql
 have k := h.known
 have hkn := h.kn
 have hul := h.ul
 refine ⟨fun s => by rw [h.pl]; have := cnt_le s f.slots; omega, by omega, fun s => ?_⟩
 rw [h.gn, h.sl, List.length_drop]
 have := cnt_le s (f.slots.take f.known)
 rw [List.length_take] at this
 omega
theorem Sim.dvI (h : Sim T o f) (hT : T ≤ 100000) : DvI o := by
 refine ⟨h.wf hT, by rw [h.pre, h.done]; exact h.kn, ?_, fun d hd => ?_⟩
 · rw [h.mi, h.done]
   have := cnt_le f.self (f.slots.take f.upto)
   rw [List.length_take] at this
   omega
 · rw [h.hd] at hd
   have := h.bl d (List.mem_filter.1 hd).1
   omega
end
end Go.Proofs.YtoilipfgimcoiaaGreat
namespace Go.Proofs.YtoilipfgimcoiaaGreat
open Go Go.RowKit
structure CmX where
 d : Dt
 A : Option Addr
 c : Nat
 p : Nat
def eCm (x : CmX) : List Value := [.int .i64 x.d.s, .int .i64 x.d.q, .int .i64 x.d.st, .slice x.A x.d.b.length x.c, .int .i64 x.p]
theorem eCm_len (x : CmX) : (eCm x).length = 5 := rfl
theorem one_eCm (x : CmX) : ∀ u ∈ eCm x, u.oneCell' = true := by
 intro u hu
 simp [eCm] at hu
 rcases hu with rfl | rfl | rfl | rfl | rfl <;> rfl
def eBo (b : Bool) : List Value := [.bool b]
theorem one_eBo (x : Bool) : ∀ u ∈ eBo x, u.oneCell' = true := by intro u hu; rw [List.mem_singleton.1 hu]; rfl
structure RfX where
 pA : Option Addr
 pc : Nat
 cA : Option Addr
 cc : Nat
 cl : List CmX
 sA : Option Addr
 sc : Nat
 tA : Option Addr
 tc : Nat
 wA : Option Addr
 wc : Nat
def cellsR (f : Rf) (X : RfX) : List Value := [.int .i64 f.id.e, .int .i64 f.id.l, .int .i64 f.id.i, .int .i64 f.id.c, .slice X.pA f.mem.length X.pc, .int .i64 f.self, .int .i64 f.win, .slice X.cA f.came.length X.cc, .slice X.sA f.slots.length X.sc, .int .i64 f.upto, .int .i64 f.known, .slice X.tA f.told.length X.tc, .slice X.wA f.saw.length X.wc, .bool f.stop]
structure RefAt (w : World) (K : Nat → Nat) (r b : Nat) (f : Rf) (X : RfX) : Prop where
 r0 : 0 < r
 kb : K b = r
 hb : b < w.heap.size
 kz : ∀ y, w.heap.size ≤ y → K y = 0
 rg : w.rangeAt b 0 (cellsR f X)
 th : w.there b 0 14
 pr : OwnO w K (r + 1) 1 eNat X.pA X.pc f.mem
 cr : OwnO w K (r + 2) 5 eCm X.cA X.cc X.cl
 cv : X.cl.map (·.d) = f.came
 cb : ∀ x ∈ X.cl, RowB w K (r + 6) 1 eByte x.A x.d.b
 sr : OwnO w K (r + 3) 2 eSl X.sA X.sc f.slots
 tr : OwnO w K (r + 4) 1 eNat X.tA X.tc f.told
 wr : OwnO w K (r + 5) 1 eBo X.wA X.wc f.saw
def PosOk (f : Rf) (X : RfX) : Prop := ∀ x ∈ X.cl, x.p = psn f.slots x.d.sl
def FrO (o : Os) : Prop := o.taken o.self ≤ o.win + o.gone o.self
def RO (T : Nat) (w : World) (K : Nat → Nat) (r b : Nat) (o : Os) : Prop := ∃ f X, RefAt w K r b f X ∧ PosOk f X ∧ Sim T o f ∧ FrO o
def inF (r x : Nat) : Prop := r ≤ x ∧ x < r + 6
def inFB (r x : Nat) : Prop := r ≤ x ∧ x < r + 7
section
variable {Q : Nat → Prop} {K K' : Nat → Nat} {w w' w2 : World} {r b T : Nat} {f : Rf} {X : RfX} {o : Os} {l : List Nat}
theorem range_roF {g off : Nat} {cs : List Value} (h : w.rangeAt g off cs) (hg : g < w.heap.size) (q : Ro Q K K' w w') (hq : ¬ Q (K g)) : w'.rangeAt g off cs := range_same h (q.same g hg hq)
theorem there_roF {g off m : Nat} (h : w.there g off m) (hg : g < w.heap.size) (q : Ro Q K K' w w') (hq : ¬ Q (K g)) : w'.there g off m := there_sameO h (q.same g hg hq)
theorem RefAt.ro (h : RefAt w K r b f X) (q : Ro Q K K' w w') (kz : ∀ y, w'.heap.size ≤ y → K' y = 0) (hr : ∀ x, inFB r x → ¬ Q x) : RefAt w' K' r b f X := by
 have n0 : ¬ Q (K b) := by rw [h.kb]; exact hr r ⟨Nat.le_refl _, by omega⟩
 exact ⟨h.r0, (q.kk b h.hb).trans h.kb, Nat.lt_of_lt_of_le h.hb q.size, kz, range_roF h.rg h.hb q n0, there_roF h.th h.hb q n0, h.pr.ro q (hr _ ⟨by omega, by omega⟩), h.cr.ro q (hr _ ⟨by omega, by omega⟩), h.cv, fun x hx => (h.cb x hx).ro q (hr _ ⟨by omega, by omega⟩), h.sr.ro q (hr _ ⟨by omega, by omega⟩), h.tr.ro q (hr _ ⟨by omega, by omega⟩), h.wr.ro q (hr _ ⟨by omega, by omega⟩)⟩
theorem RefAt.below (h : RefAt w K r b f X) (hb : Below w.heap.size w w') : RefAt w' K r b f X :=
 h.ro (Q := fun _ => False) (.below hb) (fun y hy => h.kz y (Nat.le_trans hb.size hy)) fun _ _ => id
theorem RO.ro (h : RO T w K r b o) (q : Ro Q K K' w w') (kz : ∀ y, w'.heap.size ≤ y → K' y = 0) (hr : ∀ x, inFB r x → ¬ Q x) : RO T w' K' r b o := by
 obtain ⟨f, X, h1, h2⟩ := h
 exact ⟨f, X, h1.ro q kz hr, h2⟩
theorem RO.below (h : RO T w K r b o) (hb : Below w.heap.size w w') : RO T w' K r b o := by
 obtain ⟨f, X, h1, h2⟩ := h
 exact ⟨f, X, h1.below hb, h2⟩
theorem RefAt.clen (h : RefAt w K r b f X) : X.cl.length = f.came.length := by rw [← h.cv, List.length_map]
theorem load116 {b j n c : Nat} {A : Option Addr} (h : w.cell? ⟨b, j, none⟩ = some (.slice A n c)) : (loadVar 116 ⟨b, j, none⟩).run Tryz.prog w = .ok (.slice A n c) w := by go_simp
theorem load55 {b j n c : Nat} {A : Option Addr} (h : w.cell? ⟨b, j, none⟩ = some (.slice A n c)) : (loadVar 55 ⟨b, j, none⟩).run Tryz.prog w = .ok (.slice A n c) w := by go_simp
theorem RefAt.l_id (h : RefAt w K r b f X) (hl : b ∈ l) : Ld Tryz.prog 38 b 0 (Sm l w) (.agg #[.int .i64 f.id.e, .int .i64 f.id.l, .int .i64 f.id.i, .int .i64 f.id.c]) := ⟨fun W hW => load_agg (cs := [.int .i64 f.id.e, .int .i64 f.id.l, .int .i64 f.id.i, .int .i64 f.id.c]) (by kernel_rfl) (by kernel_rfl) (range_sub (n := 4) (range_same h.rg (hW b hl)) 0 rfl)⟩
theorem RefAt.l_mem (h : RefAt w K r b f X) (hl : b ∈ l) : Ld Tryz.prog 56 b 4 (Sm l w) (.slice X.pA f.mem.length X.pc) := ⟨fun _ hW => load49 (cell_sm (h.rg 4 _ rfl) hl hW)⟩
theorem RefAt.l_self (h : RefAt w K r b f X) (hl : b ∈ l) : Ld Tryz.prog 3 b 5 (Sm l w) (.int .i64 f.self) := ⟨fun _ hW => load3 (cell_sm (h.rg 5 _ rfl) hl hW)⟩
theorem RefAt.l_win (h : RefAt w K r b f X) (hl : b ∈ l) : Ld Tryz.prog 3 b 6 (Sm l w) (.int .i64 f.win) := ⟨fun _ hW => load3 (cell_sm (h.rg 6 _ rfl) hl hW)⟩
theorem RefAt.l_came (h : RefAt w K r b f X) (hl : b ∈ l) : Ld Tryz.prog 116 b 7 (Sm l w) (.slice X.cA f.came.length X.cc) := ⟨fun _ hW => load116 (cell_sm (h.rg 7 _ rfl) hl hW)⟩
theorem RefAt.l_slots (h : RefAt w K r b f X) (hl : b ∈ l) : Ld Tryz.prog 57 b 8 (Sm l w) (.slice X.sA f.slots.length X.sc) := ⟨fun _ hW => load48 (cell_sm (h.rg 8 _ rfl) hl hW)⟩
theorem RefAt.l_upto (h : RefAt w K r b f X) (hl : b ∈ l) : Ld Tryz.prog 3 b 9 (Sm l w) (.int .i64 f.upto) := ⟨fun _ hW => load3 (cell_sm (h.rg 9 _ rfl) hl hW)⟩
theorem RefAt.l_known (h : RefAt w K r b f X) (hl : b ∈ l) : Ld Tryz.prog 3 b 10 (Sm l w) (.int .i64 f.known) := ⟨fun _ hW => load3 (cell_sm (h.rg 10 _ rfl) hl hW)⟩
theorem RefAt.l_told (h : RefAt w K r b f X) (hl : b ∈ l) : Ld Tryz.prog 56 b 11 (Sm l w) (.slice X.tA f.told.length X.tc) := ⟨fun _ hW => load49 (cell_sm (h.rg 11 _ rfl) hl hW)⟩
theorem RefAt.l_saw (h : RefAt w K r b f X) (hl : b ∈ l) : Ld Tryz.prog 55 b 12 (Sm l w) (.slice X.wA f.saw.length X.wc) := ⟨fun _ hW => load55 (cell_sm (h.rg 12 _ rfl) hl hW)⟩
theorem RefAt.l_stop (h : RefAt w K r b f X) (hl : b ∈ l) : Ld Tryz.prog 4 b 13 (Sm l w) (.bool f.stop) := ⟨fun _ hW => load4 (cell_sm (h.rg 13 _ rfl) hl hW)⟩
theorem OwnO.get {α : Type} {q sz c : Nat} {enc : α → List Value} {A : Option Addr} {m : List α} (h : OwnO w K q sz enc A c m) (hm : 0 < m.length) : ∃ g off, A = some ⟨g, off, none⟩ ∧ g < w.heap.size ∧ K g = q ∧ m.length ≤ c ∧ w.there g off (c * sz) ∧ ∀ k x, m[k]? = some x → ∀ j u, (enc x)[j]? = some u → w.cell? ⟨g, off + k * sz + j, none⟩ = some u := by
 rcases h with ⟨-, e, -⟩ | ⟨g, off, e, h1, h2, h3, h4, h5⟩
 · rw [e] at hm; exact absurd hm (by simp)
 · exact ⟨g, off, e, h1, h2, h3, h4, h5⟩
theorem RefAt.putc (h : RefAt w K r b f X) {j : Nat} {v : Value} (f' : Rf) (hw : w' = w.setCell ⟨b, j, none⟩ v) (hj : j < 14) (he : cellsR f' X = (cellsR f X).set j v) (hm : f'.mem = f.mem) (hc : f'.came = f.came) (hs : f'.slots = f.slots) (ht : f'.told = f.told) (hsw : f'.saw = f.saw) :
   RefAt w' K r b f' X ∧ Ro (· = r) K K w w' := by
 have q : Ro (· = r) K K w w' := by rw [hw]; exact Ro.cell h.kb _ _
 obtain ⟨g1, g2⟩ := rng_cell h.rg h.th rfl hj hw he
 have r0 := h.r0
 exact ⟨⟨h.r0, h.kb, by rw [hw, World.size_setCell]; exact h.hb, fun y hy => h.kz y (Nat.le_trans q.size hy), g1, g2, by rw [hm]; exact h.pr.ro q (by omega), h.cr.ro q (by omega), by rw [hc]; exact h.cv, fun x hx => (h.cb x hx).ro q (by omega), by rw [hs]; exact h.sr.ro q (by omega), by rw [ht]; exact h.tr.ro q (by omega), by rw [hsw]; exact h.wr.ro q (by omega)⟩, q⟩
theorem RefAt.s_came (h : RefAt w K r b f X) (y : CmX) {A' : Option Addr} {c' : Nat} (own : OwnO w' K' (r + 2) 5 eCm A' c' (X.cl ++ [y])) (hy : RowB w' K' (r + 6) 1 eByte y.A y.d.b) (q : Ro (· = r + 2) K K' w w') (kz : ∀ z, w'.heap.size ≤ z → K' z = 0) (hw : w2 = w'.setCell ⟨b, 7, none⟩ (.slice A' (f.came.length + 1) c')) :
   RefAt w2 K' r b (f.come y.d) { X with cA := A', cc := c', cl := X.cl ++ [y] } ∧ Ro (fun z => z = r + 2 ∨ z = r) K K' w w2 := by
 have r0 := h.r0
 have kb := (q.kk b h.hb).trans h.kb
 have q2 : Ro (· = r) K' K' w' w2 := by rw [hw]; exact Ro.cell kb _ _
 obtain ⟨g1, g2⟩ := rng_cell (l' := cellsR (f.come y.d) { X with cA := A', cc := c', cl := X.cl ++ [y] }) (j := 7) (range_roF h.rg h.hb q (by rw [h.kb]; omega)) (there_roF h.th h.hb q (by rw [h.kb]; omega)) rfl (by omega) hw (by unfold cellsR Rf.come; simp)
 exact ⟨⟨h.r0, kb, Nat.lt_of_lt_of_le h.hb (Nat.le_trans q.size q2.size), fun z hz => kz z (Nat.le_trans q2.size hz), g1, g2, (h.pr.ro q (by omega)).ro q2 (by omega), own.ro q2 (by omega), by show (X.cl ++ [y]).map (·.d) = f.came ++ [y.d]; rw [List.map_append, h.cv]; rfl, fun x hx => by
   rcases List.mem_append.1 hx with hx | hx
   · exact ((h.cb x hx).ro q (by omega)).ro q2 (by omega)
   · rw [List.mem_singleton.1 hx]; exact hy.ro q2 (by omega), (h.sr.ro q (by omega)).ro q2 (by omega), (h.tr.ro q (by omega)).ro q2 (by omega), (h.wr.ro q (by omega)).ro q2 (by omega)⟩, (q.more fun z e => .inl e).trans (q2.more fun z e => .inr e)⟩
theorem RefAt.s_slots (h : RefAt w K r b f X) (x : Sl) {A' : Option Addr} {c' : Nat} (own : OwnO w' K' (r + 3) 2 eSl A' c' (f.slots ++ [x])) (q : Ro (· = r + 3) K K' w w') (kz : ∀ z, w'.heap.size ≤ z → K' z = 0) (hw : w2 = w'.setCell ⟨b, 8, none⟩ (.slice A' (f.slots.length + 1) c')) :
   RefAt w2 K' r b (f.place x) { X with sA := A', sc := c' } ∧ Ro (fun z => z = r + 3 ∨ z = r) K K' w w2 := by
 have r0 := h.r0
 have kb := (q.kk b h.hb).trans h.kb
 have q2 : Ro (· = r) K' K' w' w2 := by rw [hw]; exact Ro.cell kb _ _
 obtain ⟨g1, g2⟩ := rng_cell (l' := cellsR (f.place x) { X with sA := A', sc := c' }) (j := 8) (range_roF h.rg h.hb q (by rw [h.kb]; omega)) (there_roF h.th h.hb q (by rw [h.kb]; omega)) rfl (by omega) hw (by unfold cellsR Rf.place; simp)
 exact ⟨⟨h.r0, kb, Nat.lt_of_lt_of_le h.hb (Nat.le_trans q.size q2.size), fun z hz => kz z (Nat.le_trans q2.size hz), g1, g2, (h.pr.ro q (by omega)).ro q2 (by omega), (h.cr.ro q (by omega)).ro q2 (by omega), h.cv, fun y hy => ((h.cb y hy).ro q (by omega)).ro q2 (by omega), own.ro q2 (by omega), (h.tr.ro q (by omega)).ro q2 (by omega), (h.wr.ro q (by omega)).ro q2 (by omega)⟩, (q.more fun z e => .inl e).trans (q2.more fun z e => .inr e)⟩
end
end Go.Proofs.YtoilipfgimcoiaaGreat
