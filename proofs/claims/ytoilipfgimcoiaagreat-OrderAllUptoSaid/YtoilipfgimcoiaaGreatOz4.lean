/- OdA OdB OdS OdC OdD, joined. -/
import Derived.Test.YtoilipfgimcoiaaGreatOz3
set_option linter.unusedVariables false
set_option linter.unusedSimpArgs false
namespace Go.Proofs.YtoilipfgimcoiaaGreat
open Go Go.RowKit
structure OsX where
 mA : Option Addr
 mc : Nat
 hb : Nat
 qA : Option Addr
 qc : Nat
 sA : Option Addr
 sc : Nat
 hl : List DtX
def cellO (o : Os) (X : OsX) (j : Nat) : Value :=
 if j = 0 then .int .i64 o.id.e else if j = 1 then .int .i64 o.id.l else if j = 2 then .int .i64 o.id.i else if j = 3 then .int .i64 o.id.c
 else if j = 4 then .slice X.mA o.mem.length X.mc else if j = 5 then .int .i64 o.self else if j = 6 then .int .i64 o.win else if j = 7 then .bool o.frz
 else if j < 24 then .bool (o.seen (j - 8)) else if j < 40 then .int .i64 (o.taken (j - 24)) else if j < 56 then .int .i64 (o.placed (j - 40)) else if j < 72 then .int .i64 (o.gone (j - 56)) else if j < 88 then .int .i64 (o.told (j - 72))
 else if j = 88 then .map (some X.hb) else if j = 89 then .slice X.qA o.queue.length X.qc else if j = 90 then .slice X.sA o.slots.length X.sc
 else if j = 91 then .int .i64 o.pre else if j = 92 then .int .i64 o.done else .int .i64 o.mine
section
variable {o : Os} {X : OsX} {s : Nat}
theorem cellO_seen (hs : s < 16) : cellO o X (8 + s) = .bool (o.seen s) := by
 unfold cellO
 repeat rw [if_neg (by omega)]
 rw [if_pos (by omega), show 8 + s - 8 = s by omega]
theorem cellO_taken (hs : s < 16) : cellO o X (24 + s) = .int .i64 (o.taken s) := by
 unfold cellO
 repeat rw [if_neg (by omega)]
 rw [if_pos (by omega), show 24 + s - 24 = s by omega]
theorem cellO_placed (hs : s < 16) : cellO o X (40 + s) = .int .i64 (o.placed s) := by
 unfold cellO
 repeat rw [if_neg (by omega)]
 rw [if_pos (by omega), show 40 + s - 40 = s by omega]
theorem cellO_gone (hs : s < 16) : cellO o X (56 + s) = .int .i64 (o.gone s) := by
 unfold cellO
 repeat rw [if_neg (by omega)]
 rw [if_pos (by omega), show 56 + s - 56 = s by omega]
theorem cellO_told (hs : s < 16) : cellO o X (72 + s) = .int .i64 (o.told s) := by
 unfold cellO
 repeat rw [if_neg (by omega)]
 rw [if_pos (by omega), show 72 + s - 72 = s by omega]
end
structure CellsO (w : World) (b : Nat) (o : Os) (X : OsX) : Prop where
 hb : b < w.heap.size
 cell : ∀ j, j < 94 → w.cell? ⟨b, j, none⟩ = some (cellO o X j) ∧ w.frozen? ⟨b, j, none⟩ = false
def RowB {α : Type} (w : World) (K : Nat → Nat) (q sz : Nat) (enc : α → List Value) (A : Option Addr) (l : List α) : Prop :=
 0 < l.length → ∃ b off, A = some ⟨b, off, none⟩ ∧ b < w.heap.size ∧ K b = q ∧ ∀ k x, l[k]? = some x → ∀ j u, (enc x)[j]? = some u → w.cell? ⟨b, off + k * sz + j, none⟩ = some u
theorem RowB.row {α : Type} {w : World} {K : Nat → Nat} {q sz : Nat} {enc : α → List Value} {A : Option Addr} {l : List α} (h : RowB w K q sz enc A l) : RowAt w w.heap.size sz enc A l := fun h0 => by
 obtain ⟨g, off, e, h1, _, h3⟩ := h h0
 exact ⟨g, off, e, h1, h3⟩
theorem RowB.ro {α : Type} {R : Nat → Prop} {w w' : World} {K K' : Nat → Nat} {p sz : Nat} {enc : α → List Value} {A : Option Addr} {l : List α} (h : RowB w K p sz enc A l) (q : Ro R K K' w w') (h0 : ¬ R p) : RowB w' K' p sz enc A l := fun hl => by
 obtain ⟨g, off, e, h1, h2, h3⟩ := h hl
 have hq := q.same g h1 (by rw [h2]; exact h0)
 exact ⟨g, off, e, Nat.lt_of_lt_of_le h1 q.size, (q.kk g h1).trans h2, fun k x hx j u hu => (World.cell?_of_block (a := ⟨g, _, none⟩) hq).trans (h3 k x hx j u hu)⟩
theorem RowB.at_ {α : Type} {w : World} {K : Nat → Nat} {p sz : Nat} {enc : α → List Value} {A : Option Addr} {l : List α} (h : RowAt w w.heap.size sz enc A l) (hA : ∀ b, blk A = some b → K b = p) : RowB w K p sz enc A l := fun h0 => by
 obtain ⟨g, off, e, h1, h3⟩ := h h0
 exact ⟨g, off, e, h1, hA g (by rw [e]; rfl), h3⟩
structure RowsO (w : World) (K : Nat → Nat) (r : Nat) (o : Os) (X : OsX) : Prop where
 mem : RowB w K (r + 4) 1 eNat X.mA o.mem
 map : HMap w X.hb X.hl
 km : K X.hb = r + 1
 hd : X.hl.map (·.d) = o.held
 bod : ∀ y ∈ X.hl, RowB w K (r + 4) 1 eByte y.A y.d.b
 q : OwnO w K (r + 2) 2 eSl X.qA X.qc o.queue
 s : OwnO w K (r + 3) 2 eSl X.sA X.sc o.slots
structure OrdAt (w : World) (K : Nat → Nat) (r b : Nat) (o : Os) (X : OsX) : Prop where
 r0 : 0 < r
 kb : K b = r
 kz : ∀ b, w.heap.size ≤ b → K b = 0
 cs : CellsO w b o X
 rs : RowsO w K r o X
def inR (r x : Nat) : Prop := r ≤ x ∧ x < r + 4
def inB (r x : Nat) : Prop := r ≤ x ∧ x < r + 5
section
variable {R : Nat → Prop} {K K' : Nat → Nat} {w w' : World} {r b : Nat} {o o' : Os} {X X' : OsX} {l : List Nat}
theorem CellsO.same (h : CellsO w b o X) (hs : w.heap.size ≤ w'.heap.size) (hb : w'.heap[b]? = w.heap[b]?) : CellsO w' b o X :=
 ⟨Nat.lt_of_lt_of_le h.hb hs, fun j hj => by rw [World.cell?_of_block (a := ⟨b, j, none⟩) hb, World.frozen?_of_block (a := ⟨b, j, none⟩) hb]; exact h.cell j hj⟩
theorem RowsO.ro (h : RowsO w K r o X) (q : Ro R K K' w w') (h4 : ¬ R (r + 4)) (h1 : ¬ R (r + 1)) (h2 : ¬ R (r + 2)) (h3 : ¬ R (r + 3)) : RowsO w' K' r o X :=
 ⟨h.mem.ro q h4, h.map.same (q.same _ h.map.lt (by rw [h.km]; exact h1)), (q.kk _ h.map.lt).trans h.km, h.hd, fun y hy => (h.bod y hy).ro q h4, h.q.ro q h2, h.s.ro q h3⟩
theorem OrdAt.ro (h : OrdAt w K r b o X) (q : Ro R K K' w w') (kz : ∀ b, w'.heap.size ≤ b → K' b = 0) (_h0 : ¬ R 0) (hr : ∀ x, inB r x → ¬ R x) : OrdAt w' K' r b o X :=
 ⟨h.r0, (q.kk b h.cs.hb).trans h.kb, kz, h.cs.same q.size (q.same b h.cs.hb (by rw [h.kb]; exact hr r ⟨Nat.le_refl _, by omega⟩)), h.rs.ro q (hr _ ⟨by omega, by omega⟩) (hr _ ⟨by omega, by omega⟩) (hr _ ⟨by omega, by omega⟩) (hr _ ⟨by omega, by omega⟩)⟩
theorem OrdAt.below (h : OrdAt w K r b o X) (hb : Below w.heap.size w w') : OrdAt w' K r b o X :=
 h.ro (R := fun _ => False) (.below hb) (fun b hb' => h.kz b (Nat.le_trans hb.size hb')) id fun _ _ => id
theorem CellsO.put (h : CellsO w b o X) {j : Nat} {v : Value} (hw : w' = w.setCell ⟨b, j, none⟩ v) (hj : j < 94) (hv : cellO o' X' j = v) (ho : ∀ i, i < 94 → i ≠ j → cellO o' X' i = cellO o X i) : CellsO w' b o' X' := by
 subst hw
 refine ⟨by rw [World.size_setCell]; exact h.hb, fun i hi => ?_⟩
 rw [World.frozen?_setCell]
 refine ⟨?_, (h.cell i hi).2⟩
 by_cases e : i = j
 · subst e
   rw [hv]
   exact World.cell?_setCell_same' _ _ _ (by rw [(h.cell i hi).1]; rfl)
 · rw [ho i hi e]
   exact cell_out (vs := [v]) (h.cell i hi).1 (by show i < j ∨ j + 1 ≤ i; omega)
theorem OrdAt.c (h : OrdAt w K r b o X) (hl : b ∈ l) {j : Nat} (hj : j < 94) {W : World} (hW : Sm l w W) : W.cell? ⟨b, j, none⟩ = some (cellO o X j) :=
 (World.cell?_of_block (a := ⟨b, j, none⟩) (hW b hl)).trans (h.cs.cell j hj).1
theorem load3 {b j : Nat} {v : Int} (h : w.cell? ⟨b, j, none⟩ = some (.int .i64 v)) : (loadVar 3 ⟨b, j, none⟩).run Tryz.prog w = .ok (.int .i64 v) w := by go_simp
theorem load4 {b j : Nat} {v : Bool} (h : w.cell? ⟨b, j, none⟩ = some (.bool v)) : (loadVar 4 ⟨b, j, none⟩).run Tryz.prog w = .ok (.bool v) w := by go_simp
theorem load49 {b j n c : Nat} {A : Option Addr} (h : w.cell? ⟨b, j, none⟩ = some (.slice A n c)) : (loadVar 56 ⟨b, j, none⟩).run Tryz.prog w = .ok (.slice A n c) w := by go_simp
theorem load48 {b j n c : Nat} {A : Option Addr} (h : w.cell? ⟨b, j, none⟩ = some (.slice A n c)) : (loadVar 57 ⟨b, j, none⟩).run Tryz.prog w = .ok (.slice A n c) w := by go_simp
theorem load27 {b j n c : Nat} {A : Option Addr} (h : w.cell? ⟨b, j, none⟩ = some (.slice A n c)) : (loadVar 42 ⟨b, j, none⟩).run Tryz.prog w = .ok (.slice A n c) w := by go_simp
theorem load94 {b j : Nat} {A : Option Nat} (h : w.cell? ⟨b, j, none⟩ = some (.map A)) : (loadVar 113 ⟨b, j, none⟩).run Tryz.prog w = .ok (.map A) w := by go_simp
theorem OrdAt.l_mem (h : OrdAt w K r b o X) (hl : b ∈ l) : Ld Tryz.prog 56 b 4 (Sm l w) (.slice X.mA o.mem.length X.mc) := ⟨fun _ hW => load49 (h.c hl (by omega) hW)⟩
theorem OrdAt.l_self (h : OrdAt w K r b o X) (hl : b ∈ l) : Ld Tryz.prog 3 b 5 (Sm l w) (.int .i64 o.self) := ⟨fun _ hW => load3 (h.c hl (by omega) hW)⟩
theorem OrdAt.l_win (h : OrdAt w K r b o X) (hl : b ∈ l) : Ld Tryz.prog 3 b 6 (Sm l w) (.int .i64 o.win) := ⟨fun _ hW => load3 (h.c hl (by omega) hW)⟩
theorem OrdAt.l_frz (h : OrdAt w K r b o X) (hl : b ∈ l) : Ld Tryz.prog 4 b 7 (Sm l w) (.bool o.frz) := ⟨fun _ hW => load4 (h.c hl (by omega) hW)⟩
theorem OrdAt.l_seen (h : OrdAt w K r b o X) (hl : b ∈ l) {s : Nat} (hs : s < 16) : Ld Tryz.prog 4 b (8 + s) (Sm l w) (.bool (o.seen s)) := ⟨fun _ hW => load4 (by rw [← cellO_seen hs]; exact h.c hl (by omega) hW)⟩
theorem OrdAt.l_taken (h : OrdAt w K r b o X) (hl : b ∈ l) {s : Nat} (hs : s < 16) : Ld Tryz.prog 3 b (24 + s) (Sm l w) (.int .i64 (o.taken s)) := ⟨fun _ hW => load3 (by rw [← cellO_taken hs]; exact h.c hl (by omega) hW)⟩
theorem OrdAt.l_placed (h : OrdAt w K r b o X) (hl : b ∈ l) {s : Nat} (hs : s < 16) : Ld Tryz.prog 3 b (40 + s) (Sm l w) (.int .i64 (o.placed s)) := ⟨fun _ hW => load3 (by rw [← cellO_placed hs]; exact h.c hl (by omega) hW)⟩
theorem OrdAt.l_gone (h : OrdAt w K r b o X) (hl : b ∈ l) {s : Nat} (hs : s < 16) : Ld Tryz.prog 3 b (56 + s) (Sm l w) (.int .i64 (o.gone s)) := ⟨fun _ hW => load3 (by rw [← cellO_gone hs]; exact h.c hl (by omega) hW)⟩
theorem OrdAt.l_told (h : OrdAt w K r b o X) (hl : b ∈ l) {s : Nat} (hs : s < 16) : Ld Tryz.prog 3 b (72 + s) (Sm l w) (.int .i64 (o.told s)) := ⟨fun _ hW => load3 (by rw [← cellO_told hs]; exact h.c hl (by omega) hW)⟩
theorem OrdAt.l_held (h : OrdAt w K r b o X) (hl : b ∈ l) : Ld Tryz.prog 113 b 88 (Sm l w) (.map (some X.hb)) := ⟨fun _ hW => load94 (h.c hl (by omega) hW)⟩
theorem OrdAt.l_queue (h : OrdAt w K r b o X) (hl : b ∈ l) : Ld Tryz.prog 57 b 89 (Sm l w) (.slice X.qA o.queue.length X.qc) := ⟨fun _ hW => load48 (h.c hl (by omega) hW)⟩
theorem OrdAt.l_slots (h : OrdAt w K r b o X) (hl : b ∈ l) : Ld Tryz.prog 57 b 90 (Sm l w) (.slice X.sA o.slots.length X.sc) := ⟨fun _ hW => load48 (h.c hl (by omega) hW)⟩
theorem OrdAt.l_pre (h : OrdAt w K r b o X) (hl : b ∈ l) : Ld Tryz.prog 3 b 91 (Sm l w) (.int .i64 o.pre) := ⟨fun _ hW => load3 (h.c hl (by omega) hW)⟩
theorem OrdAt.l_done (h : OrdAt w K r b o X) (hl : b ∈ l) : Ld Tryz.prog 3 b 92 (Sm l w) (.int .i64 o.done) := ⟨fun _ hW => load3 (h.c hl (by omega) hW)⟩
theorem OrdAt.l_mine (h : OrdAt w K r b o X) (hl : b ∈ l) : Ld Tryz.prog 3 b 93 (Sm l w) (.int .i64 o.mine) := ⟨fun _ hW => load3 (h.c hl (by omega) hW)⟩
end
end Go.Proofs.YtoilipfgimcoiaaGreat
namespace Go.Proofs.YtoilipfgimcoiaaGreat
open Go Go.RowKit
set_option maxRecDepth 100000 in
theorem count_any (v m : Int) (w : World) : Calls Tryz.prog 112 #[.int .i64 v, .int .i64 m] w fun e w' => e = .returned (.bool (decide (m ≤ v ∧ v ≤ 4611686018427387904))) ∧ w' = w := by
 refine calls_vc tab_ok Tryz.func112 rfl ?_
 conv => whnf
 by_cases h1 : m ≤ v
 · by_cases h2 : v ≤ 4611686018427387904
   · repeat ((conv => whnf); first | refine Xt ?_ | refine Xq ?_ | refine Xn ?_ | refine Xj ?_ | refine Xo ?_); try (conv => whnf)
     exact .mk ⟨by rw [decide_eq_true ⟨h1, h2⟩]; rfl, rfl⟩
   · repeat ((conv => whnf); first | refine Xt ?_ | refine Xq ?_ | refine Xn ?_ | refine Xj ?_ | refine Xo ?_); try (conv => whnf)
     exact .mk ⟨by rw [decide_eq_false (fun h => h2 h.2)]; rfl, rfl⟩
 · repeat ((conv => whnf); first | refine Xt ?_ | refine Xq ?_ | refine Xn ?_ | refine Xj ?_ | refine Xo ?_); try (conv => whnf)
   exact .mk ⟨by rw [decide_eq_false (fun h => h1 h.1)]; rfl, rfl⟩
def posOf (l : List Nat) (q : Int) : Int := match l.findIdx? (fun x : Nat => decide ((x : Int) = q)) with
 | some i => i
 | none => -1
theorem findIdx_take {l : List Nat} {q : Int} {k : Nat} (hk : k < l.length) (h : ∀ x ∈ l.take k, (x : Int) ≠ q) (hx : ((l.getD k 0 : Nat) : Int) = q) : l.findIdx? (fun x : Nat => decide ((x : Int) = q)) = some k := by
 rw [List.findIdx?_eq_some_iff_getElem]
 refine ⟨hk, ?_, fun j hj => ?_⟩
 · rw [List.getD_eq_getElem?_getD, List.getElem?_eq_getElem hk] at hx
   exact decide_eq_true hx
 · have := h l[j] (List.mem_take_iff_getElem.2 ⟨j, by omega, rfl⟩)
   simpa using this
set_option maxRecDepth 100000 in
theorem index_any (A : Option Addr) (c n N : Nat) (l : List Nat) (q : Int) (w : World) (hn : l.length = n) (hA : RowAt w N 1 eNat A l) (h1 : n ≤ 2000000) :
   Calls Tryz.prog 138 #[.slice A n c, .int .i64 q] w fun e w' => e = .returned (.int .i64 (posOf l q)) ∧ w' = w := by
 refine calls_vc tab_ok Tryz.func138 rfl ?_
 conv => whnf
 repeat ((conv => whnf); first | refine Xt ?_ | refine Xq ?_ | refine Xn ?_ | refine Xj ?_ | refine Xo ?_); try (conv => whnf)
 refine VLoop.mk Nat (fun k => [(0, .slice A n c), (1, .int .i64 q), (7, .int .i64 n), (8, .int .i64 k)]) (fun k W => k ≤ n ∧ W = w ∧ ∀ x ∈ l.take k, (x : Int) ≠ q) (fun k => n - k) 0 ⟨rfl, rfl, rfl, rfl, trivial⟩ ⟨Nat.zero_le _, rfl, by simp⟩ ?_
 rintro k W ⟨hk, rfl, hno⟩
 by_cases hkn : k < n
 · obtain ⟨b, off, rfl, hb, hc⟩ := hA (by omega)
   have hy : l[k]? = some (l.getD k 0) := by rw [List.getD_eq_getElem?_getD, List.getElem?_eq_getElem (by omega)]; rfl
   have Ly : Ld Tryz.prog 3 b (off + k) (Eq W) (.int .i64 (l.getD k 0)) := .of (load3 (by have := hc k _ hy 0 _ rfl; rwa [Nat.mul_one] at this))
   by_cases hxy : ((l.getD k 0 : Nat) : Int) = q
   · repeat ((conv => whnf); first | refine Xl Ly ?_ | refine Xt ?_ | refine Xq ?_ | refine Xn ?_ | refine Xj ?_ | refine Xo ?_); try (conv => whnf)
     have : posOf l q = (k : Int) := by unfold posOf; rw [findIdx_take (by omega) hno hxy]
     exact .mk ⟨by rw [this]; rfl, rfl⟩
   · repeat ((conv => whnf); first | refine Xl Ly ?_ | refine Xt ?_ | refine Xq ?_ | refine Xn ?_ | refine Xj ?_ | refine Xo ?_); try (conv => whnf)
     refine .mk (k + 1) ⟨rfl, rfl, rfl, rfl, trivial⟩ ⟨hkn, rfl, ?_⟩ (by show n - (k + 1) < n - k; omega)
     rw [List.take_add_one, hy]
     simp only [Option.toList_some, List.mem_append, List.mem_singleton]
     rintro x (h | rfl)
     · exact hno x h
     · exact hxy
 · obtain rfl : k = n := by omega
   repeat ((conv => whnf); first | refine Xt ?_ | refine Xq ?_ | refine Xn ?_ | refine Xj ?_ | refine Xo ?_); try (conv => whnf)
   have : posOf l q = -1 := by
     unfold posOf
     rw [List.findIdx?_eq_none_iff.2 fun x hx => by
       have := hno x (by rw [List.take_of_length_le (by omega)]; exact hx)
       simpa using this]
   exact .mk ⟨by rw [this]; rfl, rfl⟩
theorem pos_mem (l : List Nat) (q : Int) : decide (0 ≤ posOf l q) = decide (∃ x ∈ l, (x : Int) = q) := by
 unfold posOf
 cases h : l.findIdx? (fun x : Nat => decide ((x : Int) = q)) with
 | none =>
   have := List.findIdx?_eq_none_iff.1 h
   show decide (0 ≤ (-1 : Int)) = _
   rw [decide_eq_false (by omega), decide_eq_false]
   rintro ⟨x, hx, e⟩
   have := this x hx
   simp [e] at this
 | some i =>
   obtain ⟨hi, h2, -⟩ := List.findIdx?_eq_some_iff_getElem.1 h
   show decide (0 ≤ (i : Int)) = _
   rw [decide_eq_true (by omega), decide_eq_true]
   exact ⟨l[i], List.getElem_mem hi, by simpa using h2⟩
def hasB (l : List Nat) (q : Int) : Bool := decide (∃ x ∈ l, (x : Int) = q)
set_option maxRecDepth 100000 in
theorem contains_any (A : Option Addr) (c n N : Nat) (l : List Nat) (q : Int) (w : World) (hn : l.length = n) (hA : RowAt w N 1 eNat A l) (h1 : n ≤ 2000000) :
   Calls Tryz.prog 122 #[.slice A n c, .int .i64 q] w fun e w' => e = .returned (.bool (hasB l q)) ∧ w' = w := by
 refine calls_vc tab_ok Tryz.func122 rfl ?_
 conv => whnf
 repeat ((conv => whnf); first | refine Xt ?_ | refine Xq ?_ | refine Xn ?_ | refine Xj ?_ | refine Xo ?_); try (conv => whnf)
 refine VCall.mk _ (index_any A c n N l q w hn hA h1) ?_
 rintro _ _ ⟨rfl, rfl⟩
 refine ⟨_, rfl, ?_⟩
 have hp := pos_mem l q
 unfold hasB
 rw [← hp]
 by_cases h0 : 0 ≤ posOf l q
 · repeat ((conv => whnf); first | refine Xt ?_ | refine Xq ?_ | refine Xn ?_ | refine Xj ?_ | refine Xo ?_); try (conv => whnf)
   exact .mk ⟨by rw [decide_eq_true h0]; rfl, rfl⟩
 · repeat ((conv => whnf); first | refine Xt ?_ | refine Xq ?_ | refine Xn ?_ | refine Xj ?_ | refine Xo ?_); try (conv => whnf)
   exact .mk ⟨by rw [decide_eq_false h0]; rfl, rfl⟩
section
variable {w : World} {K : Nat → Nat} {r b : Nat} {o : Os} {X : OsX}
set_option maxRecDepth 100000 in
theorem member_any (A : OrdAt w K r b o X) (hm : o.mem.length ≤ 16) (q : Int) : Calls Tryz.prog 99 #[.pointer (some ⟨b, 0, none⟩), .int .i64 q] w fun e w' => e = .returned (.bool (hasB o.mem q)) ∧ w' = w := by
 refine calls_vc tab_ok Tryz.func99 rfl ?_
 conv => whnf
 have L1 := A.l_mem (l := [b]) (by simp)
 repeat ((conv => whnf); first | refine Xl (L1.at (Sm.refl _ _)) ?_ | refine Xt ?_ | refine Xq ?_ | refine Xn ?_ | refine Xj ?_ | refine Xo ?_); try (conv => whnf)
 refine VCall.mk _ (contains_any X.mA X.mc o.mem.length w.heap.size o.mem q w rfl A.rs.mem.row (by omega)) ?_
 rintro _ _ ⟨rfl, rfl⟩
 refine ⟨_, rfl, ?_⟩
 repeat ((conv => whnf); first | refine Xt ?_ | refine Xq ?_ | refine Xn ?_ | refine Xj ?_ | refine Xo ?_); try (conv => whnf)
 exact .mk ⟨rfl, rfl⟩
set_option maxRecDepth 100000 in
theorem sequencer_any (A : OrdAt w K r b o X) (hm : 0 < o.mem.length) : Calls Tryz.prog 87 #[.pointer (some ⟨b, 0, none⟩)] w fun e w' => e = .returned (.bool o.seq) ∧ Below w.heap.size w w' := by
 refine calls_vc tab_ok Tryz.func87 rfl ?_
 conv => whnf
 obtain ⟨m0, hm0⟩ : ∃ m0, o.mem[0]? = some m0 := ⟨_, List.getElem?_eq_getElem hm⟩
 obtain ⟨mb, mo, hmA, mz, mk, mc⟩ := A.rs.mem hm
 have L1 := A.l_mem (l := [b, mb]) (by simp)
 rw [hmA] at L1
 have L2 := A.l_self (l := [b, mb]) (by simp)
 have L3 : Ld Tryz.prog 3 mb (mo + 0) (Sm [b, mb] w) (.int .i64 m0) := ⟨fun W hW => load3 (cell_sm (by have := mc 0 m0 hm0 0 _ rfl; rwa [Nat.zero_mul] at this) (by simp) hW)⟩
 have hh : o.mem.head? = some m0 := by rw [List.head?_eq_getElem?]; exact hm0
 repeat ((conv => whnf); first | refine Xt ?_ | refine Xq ?_ | refine Xn ?_ | refine Xj ?_ | refine Xo ?_); try (conv => whnf)
 refine VDraw.mk 1000 [] [0, 1, 2, 3, 4, 5, 6, 7, 8, 9, 10, 11] (Sm [b, mb] w) (by kernel_rfl) (by kernel_rfl) (Sm.refl _ _) ?_
 by_cases hs : m0 = o.self
 · repeat ((conv => whnf); first | refine Xl L1 ?_ | refine Xl L2 ?_ | refine Xl L3 ?_ | refine Xt ?_ | refine Xq ?_ | refine Xn ?_ | refine Xj ?_ | refine Xo ?_); try (conv => whnf)
   exact .mk ⟨by unfold Os.seq; rw [hh, hs, decide_eq_true rfl]; rfl, (Below.refl _ _).drew⟩
 · repeat ((conv => whnf); first | refine Xl L1 ?_ | refine Xl L2 ?_ | refine Xl L3 ?_ | refine Xt ?_ | refine Xq ?_ | refine Xn ?_ | refine Xj ?_ | refine Xo ?_); try (conv => whnf)
   exact .mk ⟨by unfold Os.seq; rw [hh, decide_eq_false (fun e => hs (by injection e))]; rfl, (Below.refl _ _).drew⟩
set_option maxRecDepth 100000 in
theorem known_any (A : OrdAt w K r b o X) (h1 : o.known ≤ 4611686018427387905) : Calls Tryz.prog 90 #[.pointer (some ⟨b, 0, none⟩)] w fun e w' => e = .returned (.int .i64 o.known) ∧ Below w.heap.size w w' := by
 refine calls_vc tab_ok Tryz.func90 rfl ?_
 conv => whnf
 unfold Os.known at h1
 have L1 := A.l_pre (l := [b]) (by simp)
 have L2 := A.l_slots (l := [b]) (by simp)
 repeat ((conv => whnf); first | refine Xt ?_ | refine Xq ?_ | refine Xn ?_ | refine Xj ?_ | refine Xo ?_); try (conv => whnf)
 refine VDraw.mk 1000 [] [0, 1, 2, 3, 4, 5, 6, 7, 8, 9, 10] (Sm [b] w) (by kernel_rfl) (by kernel_rfl) (Sm.refl _ _) ?_
 repeat ((conv => whnf); first | refine Xl L1 ?_ | refine Xl L2 ?_ | refine Xt ?_ | refine Xq ?_ | refine Xn ?_ | refine Xj ?_ | refine Xo ?_); try (conv => whnf)
 exact .mk ⟨by unfold Os.known; rw [Int.natCast_add]; rfl, (Below.refl _ _).drew⟩
set_option maxRecDepth 100000 in
theorem most_any (A : OrdAt w K r b o X) (hm : o.mem.length ≤ 16) (hw : o.win ≤ 8) : Calls Tryz.prog 88 #[.pointer (some ⟨b, 0, none⟩)] w fun e w' => e = .returned (.int .i64 o.most) ∧ Below w.heap.size w w' := by
 refine calls_vc tab_ok Tryz.func88 rfl ?_
 conv => whnf
 have hmul : o.mem.length * o.win ≤ 16 * 8 := Nat.mul_le_mul hm hw
 obtain ⟨m, hmm⟩ : ∃ m, m = o.mem.length * o.win := ⟨_, rfl⟩
 have hmi : (o.mem.length : Int) * (o.win : Int) = (m : Int) := by rw [hmm]; exact (Int.natCast_mul _ _).symm
 have L1 := A.l_mem (l := [b]) (by simp)
 have L2 := A.l_win (l := [b]) (by simp)
 repeat ((conv => whnf); first | refine Xt ?_ | refine Xq ?_ | refine Xn ?_ | refine Xj ?_ | refine Xo ?_); try (conv => whnf)
 refine VDraw.mk 1000 [] [0, 1, 2, 3, 4, 5, 6, 7, 8, 9, 10] (Sm [b] w) (by kernel_rfl) (by kernel_rfl) (Sm.refl _ _) ?_
 repeat ((conv => whnf); first | refine Xl L1 ?_ | refine Xl L2 ?_ | refine Xt ?_ | refine Xq ?_ | refine Xn ?_ | refine Xj ?_ | refine Xo ?_); try (conv => whnf)
 exact .mk ⟨by unfold Os.most; rw [Int.natCast_mul]; rfl, (Below.refl _ _).drew⟩
set_option maxRecDepth 100000 in
theorem done_any (A : OrdAt w K r b o X) : Calls Tryz.prog 35 #[.pointer (some ⟨b, 0, none⟩)] w fun e w' => e = .returned (.int .i64 o.done) ∧ w' = w := by
 refine calls_vc tab_ok Tryz.func35 rfl ?_
 conv => whnf
 have L1 := A.l_done (l := [b]) (by simp)
 repeat ((conv => whnf); first | refine Xl (L1.at (Sm.refl _ _)) ?_ | refine Xt ?_ | refine Xq ?_ | refine Xn ?_ | refine Xj ?_ | refine Xo ?_); try (conv => whnf)
 exact .mk ⟨rfl, rfl⟩
set_option maxRecDepth 100000 in
theorem prefix_any (A : OrdAt w K r b o X) : Calls Tryz.prog 36 #[.pointer (some ⟨b, 0, none⟩)] w fun e w' => e = .returned (.int .i64 o.pre) ∧ w' = w := by
 refine calls_vc tab_ok Tryz.func36 rfl ?_
 conv => whnf
 have L1 := A.l_pre (l := [b]) (by simp)
 repeat ((conv => whnf); first | refine Xl (L1.at (Sm.refl _ _)) ?_ | refine Xt ?_ | refine Xq ?_ | refine Xn ?_ | refine Xj ?_ | refine Xo ?_); try (conv => whnf)
 exact .mk ⟨rfl, rfl⟩
set_option maxRecDepth 100000 in
theorem held_any (A : OrdAt w K r b o X) : Calls Tryz.prog 31 #[.pointer (some ⟨b, 0, none⟩)] w fun e w' => e = .returned (.int .i64 o.held.length) ∧ w' = w := by
 refine calls_vc tab_ok Tryz.func31 rfl ?_
 conv => whnf
 have L1 := A.l_held (l := [b]) (by simp)
 have hl : X.hl.length = o.held.length := by rw [← A.rs.hd, List.length_map]
 repeat ((conv => whnf); first | refine Xl (L1.at (Sm.refl _ _)) ?_ | refine Xt ?_ | refine Xq ?_ | refine Xn ?_ | refine Xj ?_ | refine Xo ?_); try (conv => whnf)
 refine VQ.mk (.int .i64 o.held.length) (fun a ha W hW => ?_) ?_
 · subst hW
   have h3 := ha (.tmp 6) _ rfl
   have := A.rs.map.len (ty := 3)
   rw [hl] at this
   simp only [execOp, resolve, invoke, builtin, h3, Sem.run_bind, Sem.run_pure, Result.andThen_ok, this, List.map_cons, List.map_nil, List.map_toArray]
 repeat ((conv => whnf); first | refine Xt ?_ | refine Xq ?_ | refine Xn ?_ | refine Xj ?_ | refine Xo ?_); try (conv => whnf)
 exact .mk ⟨rfl, rfl⟩
set_option maxRecDepth 100000 in
theorem free_any (A : OrdAt w K r b o X) (hs : o.self < 16) (h1 : o.taken o.self ≤ 4611686018427387904) (h2 : o.gone o.self ≤ 4611686018427387904) (h3 : o.win ≤ 8) : Calls Tryz.prog 37 #[.pointer (some ⟨b, 0, none⟩)] w fun e w' => e = .returned (.int .i64 o.free) ∧ Below w.heap.size w w' := by
 refine calls_vc tab_ok Tryz.func37 rfl ?_
 conv => whnf
 have L0 := A.l_frz (l := [b]) (by simp)
 cases hf : o.frz with
 | true =>
   rw [hf] at L0
   repeat ((conv => whnf); first | refine Xl (L0.at (Sm.refl _ _)) ?_ | refine Xt ?_ | refine Xq ?_ | refine Xn ?_ | refine Xj ?_ | refine Xo ?_); try (conv => whnf)
   exact .mk ⟨by unfold Os.free; rw [hf]; rfl, Below.refl _ _⟩
 | false =>
   rw [hf] at L0
   have L1 := A.l_win (l := [b]) (by simp)
   have L2 := A.l_self (l := [b]) (by simp)
   have L3 := A.l_taken (l := [b]) (by simp) hs
   have L4 := A.l_gone (l := [b]) (by simp) hs
   repeat ((conv => whnf); first | refine Xl (L0.at (Sm.refl _ _)) ?_ | refine Xt ?_ | refine Xq ?_ | refine Xn ?_ | refine Xj ?_ | refine Xo ?_); try (conv => whnf)
   refine VDraw.mk 1000 [] [0, 1, 2, 3, 4, 5, 6, 7, 8, 9, 10, 11, 12, 13, 14, 15, 16, 17, 18, 19, 20, 21, 22, 23, 24] (Sm [b] w) (by kernel_rfl) (by kernel_rfl) (Sm.refl _ _) ?_
   repeat ((conv => whnf); first | refine Xl L1 ?_ | refine Xl L2 ?_ | refine Xl L3 ?_ | refine Xl L4 ?_ | refine Xt ?_ | refine Xq ?_ | refine Xn ?_ | refine Xj ?_ | refine Xo ?_); try (conv => whnf)
   exact .mk ⟨by unfold Os.free; rw [hf]; rfl, (Below.refl _ _).drew⟩
set_option maxRecDepth 100000 in
theorem own_any (A : OrdAt w K r b o X) (hs : o.self < 16) : Calls Tryz.prog 59 #[.pointer (some ⟨b, 0, none⟩)] w fun e w' => e = .returned (.tuple #[.int .i64 (o.taken o.self), .int .i64 o.mine]) ∧ Below w.heap.size w w' := by
 refine calls_vc tab_ok Tryz.func59 rfl ?_
 conv => whnf
 have L2 := A.l_self (l := [b]) (by simp)
 have L3 := A.l_taken (l := [b]) (by simp) hs
 have L4 := A.l_mine (l := [b]) (by simp)
 repeat ((conv => whnf); first | refine Xt ?_ | refine Xq ?_ | refine Xn ?_ | refine Xj ?_ | refine Xo ?_); try (conv => whnf)
 refine VDraw.mk 1000 [] [0, 1, 2, 3, 4, 5, 6, 7, 8, 9, 10, 11, 12, 13, 14] (Sm [b] w) (by kernel_rfl) (by kernel_rfl) (Sm.refl _ _) ?_
 repeat ((conv => whnf); first | refine Xl L2 ?_ | refine Xl L3 ?_ | refine Xl L4 ?_ | refine Xt ?_ | refine Xq ?_ | refine Xn ?_ | refine Xj ?_ | refine Xo ?_); try (conv => whnf)
 exact .mk ⟨rfl, (Below.refl _ _).drew⟩
end
end Go.Proofs.YtoilipfgimcoiaaGreat
namespace Go.Proofs.YtoilipfgimcoiaaGreat
open Go Go.RowKit
theorem ite_else {p : Prop} [Decidable p] {a b c : Value} (h : ¬ p → b = c) : (if p then a else b) = (if p then a else c) := by
 by_cases hp : p
 · rw [if_pos hp, if_pos hp]
 · rw [if_neg hp, if_neg hp]; exact h hp
section
variable {K : Nat → Nat} {w w' : World} {r b : Nat} {o : Os} {X : OsX}
theorem CellsO.s_seen (h : CellsO w b o X) {s j : Nat} (hs : s < 16) (v : Bool) (hj : j = 8 + s) (hw : w' = w.setCell ⟨b, j, none⟩ (Value.bool v)) : CellsO w' b { o with seen := upN o.seen s v } X := by
 subst hj
 refine h.put hw (by omega) (by rw [cellO_seen hs]; show Value.bool (upN o.seen s v s) = _; rw [upN_same]) fun i hi hne => ?_
 unfold cellO
 iterate 8 refine ite_else fun _ => ?_
 by_cases hi2 : i < 24
 · rw [if_pos hi2, if_pos hi2]
   show Value.bool (upN o.seen s v (i - 8)) = _
   rw [upN_ne _ _ (by omega)]
 · rw [if_neg hi2, if_neg hi2]
theorem OrdAt.s_seen (h : OrdAt w K r b o X) {s j : Nat} (hs : s < 16) (v : Bool) (hj : j = 8 + s) (hw : w' = w.setCell ⟨b, j, none⟩ (Value.bool v)) : OrdAt w' K r b { o with seen := upN o.seen s v } X ∧ Ro (· = r) K K w w' := by
 have q : Ro (· = r) K K w w' := by rw [hw]; exact Ro.cell h.kb _ _
 have R := h.rs.ro q (by have := h.r0; omega) (by omega) (by omega) (by omega)
 exact ⟨⟨h.r0, h.kb, fun b hb => h.kz b (Nat.le_trans q.size hb), h.cs.s_seen hs v hj hw, R.mem, R.map, R.km, R.hd, R.bod, R.q, R.s⟩, q⟩
theorem CellsO.s_taken (h : CellsO w b o X) {s j : Nat} (hs : s < 16) (v : Nat) (hj : j = 24 + s) (hw : w' = w.setCell ⟨b, j, none⟩ (Value.int .i64 v)) : CellsO w' b { o with taken := upN o.taken s v } X := by
 subst hj
 refine h.put hw (by omega) (by rw [cellO_taken hs]; show Value.int .i64 ((upN o.taken s v s : Nat) : Int) = _; rw [upN_same]) fun i hi hne => ?_
 unfold cellO
 iterate 9 refine ite_else fun _ => ?_
 by_cases hi2 : i < 40
 · rw [if_pos hi2, if_pos hi2]
   show Value.int .i64 ((upN o.taken s v (i - 24) : Nat) : Int) = _
   rw [upN_ne _ _ (by omega)]
 · rw [if_neg hi2, if_neg hi2]
theorem OrdAt.s_taken (h : OrdAt w K r b o X) {s j : Nat} (hs : s < 16) (v : Nat) (hj : j = 24 + s) (hw : w' = w.setCell ⟨b, j, none⟩ (Value.int .i64 v)) : OrdAt w' K r b { o with taken := upN o.taken s v } X ∧ Ro (· = r) K K w w' := by
 have q : Ro (· = r) K K w w' := by rw [hw]; exact Ro.cell h.kb _ _
 have R := h.rs.ro q (by have := h.r0; omega) (by omega) (by omega) (by omega)
 exact ⟨⟨h.r0, h.kb, fun b hb => h.kz b (Nat.le_trans q.size hb), h.cs.s_taken hs v hj hw, R.mem, R.map, R.km, R.hd, R.bod, R.q, R.s⟩, q⟩
theorem CellsO.s_placed (h : CellsO w b o X) {s j : Nat} (hs : s < 16) (v : Nat) (hj : j = 40 + s) (hw : w' = w.setCell ⟨b, j, none⟩ (Value.int .i64 v)) : CellsO w' b { o with placed := upN o.placed s v } X := by
 subst hj
 refine h.put hw (by omega) (by rw [cellO_placed hs]; show Value.int .i64 ((upN o.placed s v s : Nat) : Int) = _; rw [upN_same]) fun i hi hne => ?_
 unfold cellO
 iterate 10 refine ite_else fun _ => ?_
 by_cases hi2 : i < 56
 · rw [if_pos hi2, if_pos hi2]
   show Value.int .i64 ((upN o.placed s v (i - 40) : Nat) : Int) = _
   rw [upN_ne _ _ (by omega)]
 · rw [if_neg hi2, if_neg hi2]
theorem OrdAt.s_placed (h : OrdAt w K r b o X) {s j : Nat} (hs : s < 16) (v : Nat) (hj : j = 40 + s) (hw : w' = w.setCell ⟨b, j, none⟩ (Value.int .i64 v)) : OrdAt w' K r b { o with placed := upN o.placed s v } X ∧ Ro (· = r) K K w w' := by
 have q : Ro (· = r) K K w w' := by rw [hw]; exact Ro.cell h.kb _ _
 have R := h.rs.ro q (by have := h.r0; omega) (by omega) (by omega) (by omega)
 exact ⟨⟨h.r0, h.kb, fun b hb => h.kz b (Nat.le_trans q.size hb), h.cs.s_placed hs v hj hw, R.mem, R.map, R.km, R.hd, R.bod, R.q, R.s⟩, q⟩
theorem CellsO.s_gone (h : CellsO w b o X) {s j : Nat} (hs : s < 16) (v : Nat) (hj : j = 56 + s) (hw : w' = w.setCell ⟨b, j, none⟩ (Value.int .i64 v)) : CellsO w' b { o with gone := upN o.gone s v } X := by
 subst hj
 refine h.put hw (by omega) (by rw [cellO_gone hs]; show Value.int .i64 ((upN o.gone s v s : Nat) : Int) = _; rw [upN_same]) fun i hi hne => ?_
 unfold cellO
 iterate 11 refine ite_else fun _ => ?_
 by_cases hi2 : i < 72
 · rw [if_pos hi2, if_pos hi2]
   show Value.int .i64 ((upN o.gone s v (i - 56) : Nat) : Int) = _
   rw [upN_ne _ _ (by omega)]
 · rw [if_neg hi2, if_neg hi2]
theorem OrdAt.s_gone (h : OrdAt w K r b o X) {s j : Nat} (hs : s < 16) (v : Nat) (hj : j = 56 + s) (hw : w' = w.setCell ⟨b, j, none⟩ (Value.int .i64 v)) : OrdAt w' K r b { o with gone := upN o.gone s v } X ∧ Ro (· = r) K K w w' := by
 have q : Ro (· = r) K K w w' := by rw [hw]; exact Ro.cell h.kb _ _
 have R := h.rs.ro q (by have := h.r0; omega) (by omega) (by omega) (by omega)
 exact ⟨⟨h.r0, h.kb, fun b hb => h.kz b (Nat.le_trans q.size hb), h.cs.s_gone hs v hj hw, R.mem, R.map, R.km, R.hd, R.bod, R.q, R.s⟩, q⟩
theorem CellsO.s_told (h : CellsO w b o X) {s j : Nat} (hs : s < 16) (v : Nat) (hj : j = 72 + s) (hw : w' = w.setCell ⟨b, j, none⟩ (Value.int .i64 v)) : CellsO w' b { o with told := upN o.told s v } X := by
 subst hj
 refine h.put hw (by omega) (by rw [cellO_told hs]; show Value.int .i64 ((upN o.told s v s : Nat) : Int) = _; rw [upN_same]) fun i hi hne => ?_
 unfold cellO
 iterate 12 refine ite_else fun _ => ?_
 by_cases hi2 : i < 88
 · rw [if_pos hi2, if_pos hi2]
   show Value.int .i64 ((upN o.told s v (i - 72) : Nat) : Int) = _
   rw [upN_ne _ _ (by omega)]
 · rw [if_neg hi2, if_neg hi2]
theorem OrdAt.s_told (h : OrdAt w K r b o X) {s j : Nat} (hs : s < 16) (v : Nat) (hj : j = 72 + s) (hw : w' = w.setCell ⟨b, j, none⟩ (Value.int .i64 v)) : OrdAt w' K r b { o with told := upN o.told s v } X ∧ Ro (· = r) K K w w' := by
 have q : Ro (· = r) K K w w' := by rw [hw]; exact Ro.cell h.kb _ _
 have R := h.rs.ro q (by have := h.r0; omega) (by omega) (by omega) (by omega)
 exact ⟨⟨h.r0, h.kb, fun b hb => h.kz b (Nat.le_trans q.size hb), h.cs.s_told hs v hj hw, R.mem, R.map, R.km, R.hd, R.bod, R.q, R.s⟩, q⟩
theorem OrdAt.s_pre (h : OrdAt w K r b o X) (v : Nat) {j : Nat} (hj : j = 91) (hw : w' = w.setCell ⟨b, j, none⟩ (Value.int .i64 v)) : OrdAt w' K r b { o with pre := v } X ∧ Ro (· = r) K K w w' := by
 subst hj
 have q : Ro (· = r) K K w w' := by rw [hw]; exact Ro.cell h.kb _ _
 have R := h.rs.ro q (by have := h.r0; omega) (by omega) (by omega) (by omega)
 refine ⟨⟨h.r0, h.kb, fun b hb => h.kz b (Nat.le_trans q.size hb), h.cs.put hw (by omega) rfl fun i hi hne => ?_, R.mem, R.map, R.km, R.hd, R.bod, R.q, R.s⟩, q⟩
 unfold cellO
 simp only [if_neg hne]
theorem OrdAt.s_done (h : OrdAt w K r b o X) (v : Nat) {j : Nat} (hj : j = 92) (hw : w' = w.setCell ⟨b, j, none⟩ (Value.int .i64 v)) : OrdAt w' K r b { o with done := v } X ∧ Ro (· = r) K K w w' := by
 subst hj
 have q : Ro (· = r) K K w w' := by rw [hw]; exact Ro.cell h.kb _ _
 have R := h.rs.ro q (by have := h.r0; omega) (by omega) (by omega) (by omega)
 refine ⟨⟨h.r0, h.kb, fun b hb => h.kz b (Nat.le_trans q.size hb), h.cs.put hw (by omega) rfl fun i hi hne => ?_, R.mem, R.map, R.km, R.hd, R.bod, R.q, R.s⟩, q⟩
 unfold cellO
 simp only [if_neg hne]
theorem OrdAt.s_mine (h : OrdAt w K r b o X) (v : Nat) {j : Nat} (hj : j = 93) (hw : w' = w.setCell ⟨b, j, none⟩ (Value.int .i64 v)) : OrdAt w' K r b { o with mine := v } X ∧ Ro (· = r) K K w w' := by
 subst hj
 have q : Ro (· = r) K K w w' := by rw [hw]; exact Ro.cell h.kb _ _
 have R := h.rs.ro q (by have := h.r0; omega) (by omega) (by omega) (by omega)
 refine ⟨⟨h.r0, h.kb, fun b hb => h.kz b (Nat.le_trans q.size hb), h.cs.put hw (by omega) rfl fun i hi hne => ?_, R.mem, R.map, R.km, R.hd, R.bod, R.q, R.s⟩, q⟩
 unfold cellO
 iterate 18 refine ite_else fun _ => ?_
 omega
theorem OrdAt.s_frz (h : OrdAt w K r b o X) (v : Bool) {j : Nat} (hj : j = 7) (hw : w' = w.setCell ⟨b, j, none⟩ (Value.bool v)) : OrdAt w' K r b { o with frz := v } X ∧ Ro (· = r) K K w w' := by
 subst hj
 have q : Ro (· = r) K K w w' := by rw [hw]; exact Ro.cell h.kb _ _
 have R := h.rs.ro q (by have := h.r0; omega) (by omega) (by omega) (by omega)
 refine ⟨⟨h.r0, h.kb, fun b hb => h.kz b (Nat.le_trans q.size hb), h.cs.put hw (by omega) rfl fun i hi hne => ?_, R.mem, R.map, R.km, R.hd, R.bod, R.q, R.s⟩, q⟩
 unfold cellO
 simp only [if_neg hne]
theorem OrdAt.s_queue {K' : Nat → Nat} {w1 : World} (h : OrdAt w K r b o X) {A : Option Addr} {c n : Nat} {l : List Sl} (hl : l.length = n) (Q1 : OwnO w1 K' (r + 2) 2 eSl A c l) (q1 : Ro (· = r + 2) K K' w w1) (kz : ∀ b, w1.heap.size ≤ b → K' b = 0) {j : Nat} (hj : j = 89) (hw : w' = w1.setCell ⟨b, j, none⟩ (.slice A n c)) :
   OrdAt w' K' r b { o with queue := l } { X with qA := A, qc := c } ∧ Ro (fun x => x = r ∨ x = r + 2) K K' w w' := by
 subst hj
 subst hl
 have r0 := h.r0
 have kb : K' b = r := (q1.kk b h.cs.hb).trans h.kb
 have q2 : Ro (· = r) K' K' w1 w' := by rw [hw]; exact Ro.cell kb _ _
 have q : Ro (fun x => x = r ∨ x = r + 2) K K' w w' := (q1.more fun _ e => .inr e).trans (q2.more fun _ e => .inl e)
 have c1 := h.cs.same q1.size (q1.same b h.cs.hb (by rw [h.kb]; omega))
 have Q := Q1.ro q2 (by omega)
 refine ⟨⟨r0, kb, fun b hb => kz b (Nat.le_trans q2.size hb), c1.put hw (by omega) rfl fun i hi hne => ?_, h.rs.mem.ro q (by omega), h.rs.map.same (q.same _ h.rs.map.lt (by rw [h.rs.km]; omega)), (q.kk _ h.rs.map.lt).trans h.rs.km, h.rs.hd, fun y hy => (h.rs.bod y hy).ro q (by omega), Q, h.rs.s.ro q (by omega)⟩, q⟩
 unfold cellO
 simp only [if_neg hne]
theorem OrdAt.s_slots {K' : Nat → Nat} {w1 : World} (h : OrdAt w K r b o X) {A : Option Addr} {c n : Nat} {l : List Sl} (hl : l.length = n) (Q1 : OwnO w1 K' (r + 3) 2 eSl A c l) (q1 : Ro (· = r + 3) K K' w w1) (kz : ∀ b, w1.heap.size ≤ b → K' b = 0) {j : Nat} (hj : j = 90) (hw : w' = w1.setCell ⟨b, j, none⟩ (.slice A n c)) :
   OrdAt w' K' r b { o with slots := l } { X with sA := A, sc := c } ∧ Ro (fun x => x = r ∨ x = r + 3) K K' w w' := by
 subst hj
 subst hl
 have r0 := h.r0
 have kb : K' b = r := (q1.kk b h.cs.hb).trans h.kb
 have q2 : Ro (· = r) K' K' w1 w' := by rw [hw]; exact Ro.cell kb _ _
 have q : Ro (fun x => x = r ∨ x = r + 3) K K' w w' := (q1.more fun _ e => .inr e).trans (q2.more fun _ e => .inl e)
 have c1 := h.cs.same q1.size (q1.same b h.cs.hb (by rw [h.kb]; omega))
 have Q := Q1.ro q2 (by omega)
 refine ⟨⟨r0, kb, fun b hb => kz b (Nat.le_trans q2.size hb), c1.put hw (by omega) rfl fun i hi hne => ?_, h.rs.mem.ro q (by omega), h.rs.map.same (q.same _ h.rs.map.lt (by rw [h.rs.km]; omega)), (q.kk _ h.rs.map.lt).trans h.rs.km, h.rs.hd, fun y hy => (h.rs.bod y hy).ro q (by omega), h.rs.q.ro q (by omega), Q⟩, q⟩
 unfold cellO
 simp only [if_neg hne]
end
end Go.Proofs.YtoilipfgimcoiaaGreat
namespace Go.Proofs.YtoilipfgimcoiaaGreat
open Go Go.RowKit
structure WfO (o : Os) : Prop where
 m0 : 0 < o.mem.length
 m16 : o.mem.length ≤ 16
 mlt : ∀ q ∈ o.mem, q < 16
 win : o.win ≤ 8
 self : o.self < 16
 sl : ∀ x ∈ o.slots, x.s < 16 ∧ x.q ≤ 1000000000
 qu : ∀ x ∈ o.queue, x.s < 16 ∧ x.q ≤ 1000000000
 ql : o.queue.length ≤ 1000000000
 ke : ∀ d ∈ o.held, d.s < 16 ∧ d.q ≤ 1000000000
 nd : (o.held.map Dt.sl).Nodup
 hq : ∀ d ∈ o.held, d.q ≤ o.taken d.s
 tk : ∀ s, o.taken s ≤ 1000000000
 pl : ∀ s, o.placed s ≤ 1000000000
 gn : ∀ s, o.gone s + o.slots.length ≤ 1000000000
 kn : o.known ≤ 1000000000
 dn : o.done ≤ 1000000000
 mi : o.mine ≤ 1000000000
theorem rise1_nil {o : Os} (h : o.slots = []) : o.rise1 = o := by unfold Os.rise1; rw [h]
theorem rise1_cons {o : Os} {s : Sl} {l : List Sl} (h : o.slots = s :: l) : o.rise1 = { o with slots := l, gone := upN o.gone s.s (o.gone s.s + 1), held := o.held.filter (fun d => decide (d.sl ≠ s)), pre := o.pre + 1 } := by unfold Os.rise1; rw [h]
theorem WfO.rise1 {o : Os} (h : WfO o) : WfO o.rise1 := by
 cases hs : o.slots with
 | nil => rw [rise1_nil hs]; exact h
 | cons s l =>
   rw [rise1_cons hs]
   have h1 := h.sl
   have h2 := h.gn
   have h3 := h.kn
   unfold Os.known at h3
   rw [hs] at h1 h3
   simp only [hs, List.length_cons] at h2 h3
   refine ⟨h.m0, h.m16, h.mlt, h.win, h.self, fun x hx => h1 x (List.mem_cons_of_mem _ hx), h.qu, h.ql, fun d hd => h.ke d (List.mem_filter.1 hd).1, ?_, fun d hd => h.hq d (List.mem_filter.1 hd).1, h.tk, h.pl, fun x => ?_, ?_, h.dn, h.mi⟩
   · exact List.Nodup.sublist (List.Sublist.map _ List.filter_sublist) h.nd
   · show upN o.gone s.s (o.gone s.s + 1) x + l.length ≤ _
     unfold upN
     split
     · have := h2 s.s; omega
     · have := h2 x; omega
   · show o.pre + 1 + l.length ≤ _; omega
theorem WfO.riseK {o : Os} (h : WfO o) : ∀ k, WfO (o.riseK k)
 | 0 => h
 | k + 1 => (h.riseK k).rise1
theorem WfO.new {o : Os} (h : WfO o) {s q : Nat} (hq : q = o.taken s + 1) : ∀ e ∈ o.held, e.sl ≠ ⟨s, q⟩ := fun e he h2 => by
 have h3 := h.hq e he
 have e1 : e.s = s := congrArg Sl.s h2
 have e2 : e.q = q := congrArg Sl.q h2
 rw [e1] at h3; omega
theorem WfO.rise {o : Os} (h : WfO o) (n : Nat) : WfO (o.rise n) := h.riseK _
theorem riseK_facts (o : Os) : ∀ k, k ≤ o.slots.length → (o.riseK k).pre = o.pre + k ∧ (o.riseK k).slots = o.slots.drop k ∧ (o.riseK k).known = o.known
 | 0, _ => ⟨rfl, rfl, rfl⟩
 | k + 1, hk => by
   obtain ⟨h1, h2, h3⟩ := riseK_facts o k (by omega)
   obtain ⟨s, l, hs⟩ : ∃ s l, o.slots.drop k = s :: l := by
     cases hd : o.slots.drop k with
     | nil => have := congrArg List.length hd; simp at this; omega
     | cons s l => exact ⟨s, l, rfl⟩
   have h4 : (o.riseK k).slots = s :: l := h2.trans hs
   have e : o.riseK (k + 1) = (o.riseK k).rise1 := rfl
   rw [e, rise1_cons h4]
   refine ⟨by show (o.riseK k).pre + 1 = _; omega, ?_, ?_⟩
   · show l = _
     rw [← List.drop_drop (i := 1) (j := k), hs]; rfl
   · show (o.riseK k).pre + 1 + l.length = _
     rw [← h3]; unfold Os.known; rw [h4, List.length_cons]; omega
theorem Keys.of {o : Os} {X : OsX} (h : WfO o) (hd : X.hl.map (·.d) = o.held) : Keys X.hl ∧ (X.hl.map (·.d.sl)).Nodup := by
 refine ⟨fun x hx => ?_, ?_⟩
 · have := h.ke x.d (by rw [← hd]; exact List.mem_map.2 ⟨x, hx, rfl⟩); omega
 · have := h.nd
   rw [← hd, List.map_map] at this
   exact this
section
variable {w w' : World} {K K' : Nat → Nat} {r b : Nat} {o : Os} {X : OsX}
theorem OrdAt.s_held (h : OrdAt w K r b o X) {l' : List DtX} (hM : HMap w' X.hb l') (hg : w.grownBy w' (some X.hb)) (hb : ∀ y ∈ l', RowB w K (r + 4) 1 eByte y.A y.d.b) {ds : List Dt} (hds : l'.map (·.d) = ds) : OrdAt w' K r b { o with held := ds } { X with hl := l' } ∧ Ro (· = r + 1) K K w w' := by
 have q : Ro (· = r + 1) K K w w' := .grown hg fun k hk => by injection hk with hk; rw [← hk]; exact h.rs.km
 have r0 := h.r0
 exact ⟨⟨r0, h.kb, fun b hb => h.kz b (Nat.le_trans q.size hb), ⟨Nat.lt_of_lt_of_le h.cs.hb q.size, (h.cs.same q.size (q.same b h.cs.hb (by rw [h.kb]; omega))).cell⟩, h.rs.mem.ro q (by omega), hM, h.rs.km, hds, fun y hy => (hb y hy).ro q (by omega), h.rs.q.ro q (by omega), h.rs.s.ro q (by omega)⟩, q⟩
def OP (w : World) (K : Nat → Nat) (r b : Nat) (o : Os) (w' : World) : Prop := ∃ K' X', OrdAt w' K' r b o X' ∧ Ro (inR r) K K' w w'
theorem OP.trans {w1 : World} (q : Ro (inR r) K K' w w1) (p : OP w1 K' r b o w') : OP w K r b o w' := by
 obtain ⟨K2, X2, a, q2⟩ := p
 exact ⟨K2, X2, a, q.trans q2⟩
theorem min_any (a b : Nat) (W : World) : (Builtin.min_ #[3, 3] 3 #[.int .i64 a, .int .i64 b]).run Tryz.prog W = .ok (.int .i64 ((min a b : Nat) : Int)) W := by
 have e : (if b < a then (b : Int) else a) = ((min a b : Nat) : Int) := by split <;> omega
 simp [Builtin.min_, Builtin.min2, e]
theorem max_any (a b : Nat) (W : World) : (Builtin.max_ #[3, 3] 3 #[.int .i64 a, .int .i64 b]).run Tryz.prog W = .ok (.int .i64 ((max a b : Nat) : Int)) W := by
 have e : (if a < b then (b : Int) else a) = ((max a b : Nat) : Int) := by split <;> omega
 simp [Builtin.max_, Builtin.max2, e]
set_option maxRecDepth 100000 in
theorem least_any (A : OrdAt w K r b o X) (W : WfO o) : Calls Tryz.prog 93 #[.pointer (some ⟨b, 0, none⟩)] w fun e w' => e = .returned (.int .i64 o.least) ∧ w' = w := by
 refine calls_vc tab_ok Tryz.func93 rfl ?_
 conv => whnf
 have m16 := W.m16
 have L0 := A.l_done (l := [b]) (by simp)
 have L1 := A.l_mem (l := [b]) (by simp)
 have L2 := A.l_self (l := [b]) (by simp)
 have s0 := Sm.refl [b] w
 repeat ((conv => whnf); first | refine Xl (L0.at s0) ?_ | refine Xl (L1.at s0) ?_ | refine Xt ?_ | refine Xq ?_ | refine Xn ?_ | refine Xj ?_ | refine Xo ?_); try (conv => whnf)
 refine VLoop.mk (Nat × Nat) (fun u => [(0, .pointer (some ⟨b, 0, none⟩)), (3, .int .i64 u.2), (13, .slice X.mA o.mem.length X.mc), (14, .int .i64 o.mem.length), (15, .int .i64 u.1)]) (fun u W' => u.1 ≤ o.mem.length ∧ W' = w ∧ leastTo o (o.mem.drop u.1) u.2 = o.least) (fun u => o.mem.length - u.1) (0, o.done) ⟨rfl, rfl, rfl, rfl, rfl, trivial⟩ ⟨Nat.zero_le _, rfl, rfl⟩ ?_
 rintro ⟨k, v⟩ W' ⟨hk, rfl, hv⟩
 dsimp only at hk hv ⊢
 by_cases hkn : k < o.mem.length
 · obtain ⟨mb, mo, hmA, mz, mk, mc⟩ := A.rs.mem (by omega)
   obtain ⟨q, hq⟩ : ∃ q, o.mem[k]? = some q := ⟨_, List.getElem?_eq_getElem hkn⟩
   have hq16 := W.mlt q (List.mem_of_getElem? hq)
   have hd : o.mem.drop k = q :: o.mem.drop (k + 1) := by
     rw [List.drop_eq_getElem_cons hkn]
     congr 1
     exact (List.getElem?_eq_some_iff.1 hq).2
   rw [hd, leastTo] at hv
   have L3 : Ld Tryz.prog 3 mb (mo + k) (Eq W') (.int .i64 q) := .of (load3 (by have := mc k q hq 0 _ rfl; rwa [Nat.mul_one] at this))
   have L4 := A.l_told (l := [b]) (by simp) hq16
   rw [hmA]
   by_cases hs : q = o.self
   · rw [if_pos hs] at hv
     repeat ((conv => whnf); first | refine Xl L3 ?_ | refine Xl (L2.at s0) ?_ | refine Xt ?_ | refine Xq ?_ | refine Xn ?_ | refine Xj ?_ | refine Xo ?_); try (conv => whnf)
     exact .mk (k + 1, v) ⟨rfl, rfl, rfl, rfl, rfl, trivial⟩ ⟨hkn, rfl, hv⟩ (by show o.mem.length - (k + 1) < o.mem.length - k; omega)
   · rw [if_neg hs] at hv
     repeat ((conv => whnf); first | refine Xl L3 ?_ | refine Xl (L2.at s0) ?_ | refine Xl (L4.at s0) ?_ | refine Xt ?_ | refine Xq ?_ | refine Xn ?_ | refine Xj ?_ | refine Xo ?_); try (conv => whnf)
     refine VW.run (v := .int .i64 ((min v (o.told q) : Nat) : Int)) (w' := W') (fun a ha => ?_) ?_
     · have h3 := ha (.tmp 25) _ rfl
       have h4 := ha (.tmp 31) _ rfl
       have := min_any v (o.told q) W'
       simp only [execOp, resolve, invoke, builtin, h3, h4, Sem.run_bind, Sem.run_pure, Result.andThen_ok, this, List.map_cons, List.map_nil, List.map_toArray]
     repeat ((conv => whnf); first | refine Xt ?_ | refine Xq ?_ | refine Xn ?_ | refine Xj ?_ | refine Xo ?_); try (conv => whnf)
     exact .mk (k + 1, min v (o.told q)) ⟨rfl, rfl, rfl, rfl, rfl, trivial⟩ ⟨hkn, rfl, hv⟩ (by show o.mem.length - (k + 1) < o.mem.length - k; omega)
 · obtain rfl : k = o.mem.length := by omega
   rw [List.drop_length] at hv
   repeat ((conv => whnf); first | refine Xt ?_ | refine Xq ?_ | refine Xn ?_ | refine Xj ?_ | refine Xo ?_); try (conv => whnf)
   exact .mk ⟨by rw [← hv]; rfl, rfl⟩
theorem info78 : (Tryz.prog.info? 46).map (fun i => (i.zero, i.size, i.bytes)) = some (some (.agg #[.int .i64 0, .int .i64 0]), 2, 16) := by kernel_rfl
def zero78 : Value := .agg #[.int .i64 0, .int .i64 0]
theorem run_zero78 (W : World) : (zeroValue 46).run Tryz.prog W = .ok zero78 W := by kernel_rfl
theorem bs48 (W : World) (a b : Int) : (Instr.buildSlice 57 1 #[(0, .agg #[.int .i64 a, .int .i64 b])]).run Tryz.prog W = .ok (.slice (some ⟨W.heap.size, 0, none⟩) 1 1) (W.alloc (.cells #[.int .i64 a, .int .i64 b] 46)) := by kernel_rfl
theorem load78 {b j : Nat} {x : Sl} (h : w.rangeAt b j (eSl x)) : (loadVar 46 ⟨b, j, none⟩).run Tryz.prog w = .ok (kSl x) w := load_agg (by kernel_rfl) (by kernel_rfl) h
set_option maxRecDepth 100000 in
theorem stand_any (A : OrdAt w K r b o X) (W : WfO o) (x : Sl) (hx : x.s < 16) : Calls Tryz.prog 89 #[.pointer (some ⟨b, 0, none⟩), kSl x] w fun e w' => e = .returned (.tuple #[]) ∧ OP w K r b (o.stand x) w' := by
 refine calls_vc tab_ok Tryz.func89 rfl ?_
 have r0 := A.r0
 have hkn := W.kn
 unfold Os.known at hkn
 have hpl := W.pl x.s
 conv => whnf
 refine .mk fun wA hwA => ?_
 have bA : Below w.heap.size w wA := by rw [hwA.out]; exact below_box1 _ _ _
 have zA : wA.heap.size = w.heap.size + 1 := by rw [hwA.out]; simp
 have oA : wA.rangeAt w.heap.size 0 (eSl x) := by rw [hwA.out]; exact range_new w _ 46
 clear hwA
 have AA := A.below bA
 have hbz := A.cs.hb
 have k0 : K w.heap.size = 0 := A.kz _ (Nat.le_refl _)
 have L0 := AA.l_slots (l := [b, w.heap.size]) (by simp)
 have Lx : Ld Tryz.prog 46 w.heap.size 0 (Sm [b, w.heap.size] wA) (kSl x) := ⟨fun W' hW => load78 (range_same oA (hW _ (by simp)))⟩
 have hs0 : Sm [b, w.heap.size] wA wA.drew := fun _ _ => rfl
 have hsl : o.slots.length ≤ 1000000000 := by omega
 repeat ((conv => whnf); first | refine Xt ?_ | refine Xq ?_ | refine Xn ?_ | refine Xj ?_ | refine Xo ?_); try (conv => whnf)
 refine VDraw.mk 10 [([0, 1, 2, 3, 4, 5], 6), ([], 7), ([8, 9], 10)] [] (Sm [b, w.heap.size] wA) (by kernel_rfl) (by kernel_rfl) (hs0) ?_
 repeat ((conv => whnf); first | refine Xl L0 ?_ | refine Xl Lx ?_ | refine Xt ?_ | refine Xq ?_ | refine Xn ?_ | refine Xj ?_ | refine Xo ?_); try (conv => whnf)
 refine VBs.mk _ _ (bs48 wA.drew x.s x.q) ?_
 have c1 : Below wA.heap.size wA (wA.drew.alloc (.cells #[.int .i64 x.s, .int .i64 x.q] 46)) := Below.trans (Below.drew (Below.refl _ wA)) ((Below.refl wA.drew.heap.size wA.drew).alloc (Nat.le_refl _) _)
 have hnc : ∀ j u, (eSl x)[j]? = some u → (wA.drew.alloc (.cells #[.int .i64 x.s, .int .i64 x.q] 46)).cell? ⟨wA.drew.heap.size, j, none⟩ = some u := fun j u hu => by
   have := range_new wA.drew #[.int .i64 x.s, .int .i64 x.q] 46 j u hu
   rwa [Nat.zero_add] at this
 generalize wA.drew.alloc (.cells #[.int .i64 x.s, .int .i64 x.q] 46) = x1 at c1 hnc ⊢
 have A1 := AA.below c1
 have z1 := c1.size
 have hl1 : ∀ y ∈ [b, w.heap.size], y < wA.heap.size := fun y hy => by
   simp only [List.mem_cons, List.not_mem_nil, or_false] at hy
   rcases hy with rfl | rfl <;> omega
 have hs1 : Sm [b, w.heap.size] wA x1 := .below c1 hl1
 repeat ((conv => whnf); first | (refine VS.mk hs1 ?_) | refine Xt ?_ | refine Xq ?_ | refine Xn ?_ | refine Xj ?_ | refine Xo ?_); try (conv => whnf)
 refine VApp.off 2 16 _ Tryz.underlying57 info78 rfl (by decide) eSl (fun _ => rfl) one_eSl o.slots x rfl A1.rs.s hnc A1.kz (by omega) (by omega) fun A2 c2 K2 x2 oA2 q2 kz2 => ?_
 have hs2 : Sm [b, w.heap.size] wA x2 := hs1.trans fun y hy => by
   refine q2.same y (by have := hl1 y hy; omega) ?_
   simp only [List.mem_cons, List.not_mem_nil, or_false] at hy
   rcases hy with rfl | rfl
   · rw [A.kb]; omega
   · rw [k0]; omega
 have kb2 : K2 b = r := (q2.kk b (by omega)).trans A.kb
 have cb := (A1.cs.same q2.size (q2.same b (by omega) (by rw [A.kb]; omega))).cell 90 (by omega)
 repeat ((conv => whnf); first | (refine VS.mk hs2 ?_) | refine Xt ?_ | refine Xq ?_ | refine Xn ?_ | refine Xj ?_ | refine Xo ?_); try (conv => whnf)
 refine VStore.cell (by kernel_rfl) (by rw [show addO 0 90 = 90 from rfl, cb.1]; rfl) cb.2 rfl rfl fun x3 hx3 => ?_
 obtain ⟨A3, q3⟩ := A1.s_slots (n := o.slots.length + 1) (by simp) oA2 q2 kz2 (show addO 0 90 = 90 from rfl) hx3.out
 repeat ((conv => whnf); first | (refine VS.last rfl ?_) | refine Xt ?_ | refine Xq ?_ | refine Xn ?_ | refine Xj ?_ | refine Xo ?_); try (conv => whnf)
 have L4 : Ld Tryz.prog 3 b (40 + x.s) (Sm [b, w.heap.size] x3) (.int .i64 (o.placed x.s)) := A3.l_placed (by simp) hx
 have h3 : x3.heap[w.heap.size]? = wA.heap[w.heap.size]? := (q3.same _ (by omega) (by rw [k0]; omega)).trans (c1.block _ (by omega))
 have L5 : Ld Tryz.prog 3 w.heap.size 0 (Sm [b, w.heap.size] x3) (.int .i64 x.s) := ⟨fun W' hW => load3 ((World.cell?_of_block (a := ⟨w.heap.size, 0, none⟩) ((hW _ (by simp)).trans h3)).trans (oA 0 _ rfl))⟩
 have hs3 : Sm [b, w.heap.size] x3 x3.drew := fun _ _ => rfl
 refine VDraw.pl 11 (.one [0, 1, 2, 3, 4, 5, 6, 7, 8, 9, 10] 11 (.stop [])) (Sm [b, w.heap.size] x3) (by kernel_rfl) (hs3) ?_
 repeat ((conv => whnf); first | refine Xl L4 ?_ | refine Xl L5 ?_ | refine Xt ?_ | refine Xq ?_ | refine Xn ?_ | refine Xj ?_ | refine Xo ?_); try (conv => whnf)
 have cp := A3.cs.cell (40 + x.s) (by omega)
 refine VStore.cell (by kernel_rfl) (by rw [show addO 0 40 + mulO x.s 1 = 40 + x.s from rfl]; rw [show x3.drew.cell? = x3.cell? from rfl, cp.1]; rfl) cp.2 rfl rfl fun x4 hx4 => ?_
 obtain ⟨A4, q4⟩ := (A3.below (Below.refl _ x3).drew).s_placed hx (o.placed x.s + 1) (j := addO 0 40 + mulO x.s 1) rfl (hx4.out.trans (by rw [Int.natCast_add]; rfl))
 repeat ((conv => whnf); first | (refine VS.last rfl ?_) | refine Xt ?_ | refine Xq ?_ | refine Xn ?_ | refine Xj ?_ | refine Xo ?_); try (conv => whnf)
 refine .mk ⟨rfl, _, _, A4, ?_⟩
 have e1 : Ro (inR r) K K w x1 := .below (bA.trans (c1.mono (by omega)))
 exact (e1.trans (q3.more fun y hy => by unfold inR; omega)).trans ((Ro.drew (Ro.refl _ _ _)).trans (q4.more fun y hy => by unfold inR; omega))
end
end Go.Proofs.YtoilipfgimcoiaaGreat
namespace Go.Proofs.YtoilipfgimcoiaaGreat
open Go Go.RowKit
theorem one_sl (x : Sl) : (#[.int .i64 x.s, .int .i64 x.q] : Array Value).all (·.oneCell') = true := all_oneCell_toArray (cs := eSl x) (one_eSl x)
section
variable {w w' : World} {K K' : Nat → Nat} {r b : Nat} {o : Os} {X : OsX}
set_option maxRecDepth 100000 in
set_option maxHeartbeats 4000000 in
theorem rise_any (A : OrdAt w K r b o X) (W : WfO o) (n : Nat) (hn : n ≤ o.known) : Calls Tryz.prog 92 #[.pointer (some ⟨b, 0, none⟩), .int .i64 n] w fun e w' => e = .returned (.tuple #[]) ∧ OP w K r b (o.rise n) w' := by
 refine calls_vc tab_ok Tryz.func92 rfl ?_
 have r0 := A.r0
 have hkn := W.kn
 unfold Os.known at hkn hn
 conv => whnf
 repeat ((conv => whnf); first | refine Xt ?_ | refine Xq ?_ | refine Xn ?_ | refine Xj ?_ | refine Xo ?_); try (conv => whnf)
 refine VLoop.mk Nat (fun _ => [(0, .pointer (some ⟨b, 0, none⟩)), (1, .int .i64 n)]) (fun k W' => k ≤ n - o.pre ∧ ∃ K' X', OrdAt W' K' r b (o.riseK k) X' ∧ Ro (inR r) K K' w W') (fun k => n - o.pre - k) 0 ⟨rfl, rfl, trivial⟩ ⟨Nat.zero_le _, K, X, A, Ro.refl _ _ _⟩ ?_
 rintro k w1 ⟨hk, K1, X1, A1, q1⟩
 obtain ⟨f1, f2, f3⟩ := riseK_facts o k (by omega)
 have W1 := W.riseK k
 have esucc : o.riseK (k + 1) = (o.riseK k).rise1 := rfl
 obtain ⟨o1, ho1⟩ : ∃ o1, o1 = o.riseK k := ⟨_, rfl⟩
 rw [← ho1] at f1 f2 f3 W1 A1 esucc
 have L0 := A1.l_pre (l := [b]) (by simp)
 have s1 := Sm.refl [b] w1
 by_cases hkn2 : k < n - o.pre
 · obtain ⟨x, l, hs⟩ : ∃ x l, o1.slots = x :: l := by
     cases hd : o1.slots with
     | nil => rw [f2] at hd; have := congrArg List.length hd; simp at this; omega
     | cons s l => exact ⟨s, l, rfl⟩
   have hsl := A1.rs.s
   rw [hs] at hsl
   obtain ⟨g, off, hsA, hg1, hg2⟩ := hsl.head
   have hx := W1.sl x (by rw [hs]; exact List.mem_cons_self)
   have L1 := A1.l_slots (l := [b]) (by simp)
   rw [hs, hsA, List.length_cons] at L1
   have Lx : Ld Tryz.prog 46 g (off + 0) (Eq w1) (kSl x) := .of (load78 hg2)
   have hcap : l.length + 1 ≤ X1.sc := by
     rcases hsl with ⟨-, e, -⟩ | ⟨_, _, _, _, _, h3, _⟩
     · cases e
     · simpa using h3
   repeat ((conv => whnf); first | refine Xl (L0.at s1) ?_ | refine Xl (L1.at s1) ?_ | refine Xl Lx ?_ | refine Xt ?_ | refine Xq ?_ | refine Xn ?_ | refine Xj ?_ | refine Xo ?_); try (conv => whnf)
   refine .mk _ run_zero78 ?_
   conv => whnf
   refine .mk fun u2 hu2 => ?_
   repeat ((conv => whnf); first | refine Xt ?_ | refine Xq ?_ | refine Xn ?_ | refine Xj ?_ | refine Xo ?_); try (conv => whnf)
   refine VStore.new (c' := #[.int .i64 x.s, .int .i64 x.q]) hu2 (by kernel_rfl) rfl (one_sl x) fun w2 hw2 => ?_
   have c2 : Below w1.heap.size w1 w2 := by rw [hw2.out]; exact (Below.refl _ _).alloc (Nat.le_refl _) _
   have z2 : w2.heap.size = w1.heap.size + 1 := by rw [hw2.out]; simp
   have r2 : w2.rangeAt w1.heap.size 0 (eSl x) := by rw [hw2.out]; exact range_new w1 _ 46
   clear hu2 hw2 u2
   have A2 := A1.below c2
   have k0 : K1 w1.heap.size = 0 := A1.kz _ (Nat.le_refl _)
   have L2 := A2.l_slots (l := [b]) (by simp)
   rw [hs, List.length_cons] at L2
   repeat ((conv => whnf); first | refine Xl (L2.at (Sm.refl _ _)) ?_ | refine Xt ?_ | refine Xq ?_ | refine Xn ?_ | refine Xj ?_ | refine Xo ?_); try (conv => whnf)
   refine VSl.mk 1 (l.length + 1) rfl rfl (by omega) hcap ?_
   have oT := A2.rs.s
   rw [hs] at oT
   have oT2 := oT.tail
   have cb := A2.cs.cell 90 (by omega)
   repeat ((conv => whnf); first | refine Xt ?_ | refine Xq ?_ | refine Xn ?_ | refine Xj ?_ | refine Xo ?_); try (conv => whnf)
   refine VStore.cell (by kernel_rfl) (by rw [show addO 0 90 = 90 from rfl, cb.1]; rfl) cb.2 rfl rfl fun w3 hw3 => ?_
   obtain ⟨A3, q3⟩ := A2.s_slots (n := l.length) (A := tailA 2 X1.sc X1.sA) (c := X1.sc - 1) rfl oT2 (Ro.refl _ _ _) A2.kz (show addO 0 90 = 90 from rfl) hw3.out
   have z3 := q3.size
   have kws : K1 w1.heap.size ≠ r ∧ K1 w1.heap.size ≠ r + 3 ∧ K1 w1.heap.size ≠ r + 1 := by rw [k0]; omega
   have h3 : w3.heap[w1.heap.size]? = w2.heap[w1.heap.size]? := q3.same _ (by omega) (by omega)
   have hbz := A1.cs.hb
   have L3 : Ld Tryz.prog 3 b (56 + x.s) (Sm [b, w1.heap.size] w3) (.int .i64 (o1.gone x.s)) := A3.l_gone (by simp) hx.1
   have L4 : Ld Tryz.prog 3 w1.heap.size 0 (Sm [b, w1.heap.size] w3) (.int .i64 x.s) := ⟨fun W' hW => load3 ((World.cell?_of_block (a := ⟨w1.heap.size, 0, none⟩) ((hW _ (by simp)).trans h3)).trans (r2 0 _ rfl))⟩
   have hs3 : Sm [b, w1.heap.size] w3 w3.drew := fun _ _ => rfl
   have hgn := W1.gn x.s
   repeat ((conv => whnf); first | refine Xt ?_ | refine Xq ?_ | refine Xn ?_ | refine Xj ?_ | refine Xo ?_); try (conv => whnf)
   refine VDraw.pl 11 (.one [0, 1, 2, 3, 4, 5, 6, 7, 8, 9, 10] 11 (.stop [])) (Sm [b, w1.heap.size] w3) (by kernel_rfl) (hs3) ?_
   repeat ((conv => whnf); first | refine Xl L3 ?_ | refine Xl L4 ?_ | refine Xt ?_ | refine Xq ?_ | refine Xn ?_ | refine Xj ?_ | refine Xo ?_); try (conv => whnf)
   have cp := A3.cs.cell (56 + x.s) (by omega)
   refine VStore.cell (by kernel_rfl) (by rw [show addO 0 56 + mulO x.s 1 = 56 + x.s from rfl]; rw [show w3.drew.cell? = w3.cell? from rfl, cp.1]; rfl) cp.2 rfl rfl fun w4 hw4 => ?_
   obtain ⟨A4, q4⟩ := (A3.below (Below.refl _ w3).drew).s_gone hx.1 (o1.gone x.s + 1) (j := addO 0 56 + mulO x.s 1) rfl (hw4.out.trans (by rw [Int.natCast_add]; rfl))
   have z4 : w3.heap.size ≤ w4.heap.size := q4.size
   have h4 : w4.heap[w1.heap.size]? = w2.heap[w1.heap.size]? := (q4.same _ (show w1.heap.size < w3.heap.size by omega) (by omega)).trans h3
   repeat ((conv => whnf); first | (refine VS.last rfl ?_) | refine Xt ?_ | refine Xq ?_ | refine Xn ?_ | refine Xj ?_ | refine Xo ?_); try (conv => whnf)
   have L5 : Ld Tryz.prog 113 b 88 (Sm [b, w1.heap.size] w4) (.map (some X1.hb)) := A4.l_held (by simp)
   have L6 : Ld Tryz.prog 46 w1.heap.size 0 (Sm [b, w1.heap.size] w4) (kSl x) := ⟨fun W' hW => load78 (range_same r2 ((hW _ (by simp)).trans h4))⟩
   have hs4 : Sm [b, w1.heap.size] w4 w4.drew := fun _ _ => rfl
   refine VDraw.mk 1000 [([0, 1, 2, 3, 4], 5)] [] (Sm [b, w1.heap.size] w4) (by kernel_rfl) (by kernel_rfl) (hs4) ?_
   repeat ((conv => whnf); first | refine Xl L5 ?_ | refine Xl L6 ?_ | refine Xt ?_ | refine Xq ?_ | refine Xn ?_ | refine Xj ?_ | refine Xo ?_); try (conv => whnf)
   have A4d := A4.below (Below.refl _ w4).drew
   obtain ⟨hkeys, hnd⟩ := Keys.of W1 A1.rs.hd
   obtain ⟨w5, hrun, hM, hg5⟩ := A4d.rs.map.del (w := w4.drew) hkeys hnd (x := x) (by omega) (by omega) (ty := 0)
   refine VW.run (v := .tuple #[]) (w' := w5) (fun a ha => ?_) ?_
   · have h3 := ha (.tmp 39) _ rfl
     have h4 := ha (.tmp 40) _ rfl
     simp only [execOp, resolve, invoke, builtin, h3, h4, Sem.run_bind, Sem.run_pure, Result.andThen_ok, hrun, List.map_cons, List.map_nil, List.map_toArray]
   obtain ⟨A5, q5⟩ := A4d.s_held hM hg5 (fun y hy => A4d.rs.bod y (List.mem_filter.1 hy).1) (ds := o1.held.filter fun d => decide (d.sl ≠ x)) (by
     rw [← A1.rs.hd, List.filter_map]; rfl)
   have hs5 : Sm [b, w1.heap.size] w4 w5 := fun y hy => q5.same y (by
     simp only [List.mem_cons, List.not_mem_nil, or_false] at hy
     show y < w4.heap.size
     rcases hy with rfl | rfl <;> omega) (by
     simp only [List.mem_cons, List.not_mem_nil, or_false] at hy
     rcases hy with rfl | rfl
     · rw [A1.kb]; omega
     · exact kws.2.2)
   repeat ((conv => whnf); first | (refine VS.mk hs5 ?_) | refine Xt ?_ | refine Xq ?_ | refine Xn ?_ | refine Xj ?_ | refine Xo ?_); try (conv => whnf)
   have L7 : Ld Tryz.prog 3 b 91 (Sm [b] w5) (.int .i64 o1.pre) := A5.l_pre (by simp)
   repeat ((conv => whnf); first | refine Xl (L7.at (Sm.refl _ _)) ?_ | refine Xt ?_ | refine Xq ?_ | refine Xn ?_ | refine Xj ?_ | refine Xo ?_); try (conv => whnf)
   have cq := A5.cs.cell 91 (by omega)
   refine VStore.cell (by kernel_rfl) (by rw [show addO 0 91 = 91 from rfl, cq.1]; rfl) cq.2 rfl rfl fun w6 hw6 => ?_
   obtain ⟨A6, q6⟩ := A5.s_pre (o1.pre + 1) (j := addO 0 91) rfl (hw6.out.trans (by rw [Int.natCast_add]; rfl))
   repeat ((conv => whnf); first | refine Xt ?_ | refine Xq ?_ | refine Xn ?_ | refine Xj ?_ | refine Xo ?_); try (conv => whnf)
   refine .mk (k + 1) ⟨rfl, rfl, trivial⟩ ⟨by omega, K1, { { X1 with sA := tailA 2 X1.sc X1.sA, sc := X1.sc - 1 } with hl := X1.hl.filter fun y => decide (y.d.sl ≠ x) }, ?_, ?_⟩ (by show n - o.pre - (k + 1) < n - o.pre - k; omega)
   · rw [esucc, rise1_cons hs]
     exact A6
   · have e1 : Ro (inR r) K1 K1 w1 w2 := .below c2
     have e2 := e1.trans (q3.more fun y hy => by unfold inR; omega)
     have e3 := (e2.trans (Ro.drew (Ro.refl _ _ _))).trans (q4.more fun y hy => by unfold inR; omega)
     have e4 := (e3.trans (Ro.drew (Ro.refl _ _ _))).trans (q5.more fun y hy => by unfold inR; omega)
     exact q1.trans (e4.trans (q6.more fun y hy => by unfold inR; omega))
 · obtain rfl : k = n - o.pre := by omega
   repeat ((conv => whnf); first | refine Xl (L0.at s1) ?_ | refine Xt ?_ | refine Xq ?_ | refine Xn ?_ | refine Xj ?_ | refine Xo ?_); try (conv => whnf)
   exact .mk ⟨rfl, K1, X1, by unfold Os.rise; rw [← ho1]; exact A1, q1⟩
end
end Go.Proofs.YtoilipfgimcoiaaGreat
