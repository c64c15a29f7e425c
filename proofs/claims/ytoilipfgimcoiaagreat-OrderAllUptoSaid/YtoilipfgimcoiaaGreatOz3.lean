/- Lib Fresh StepApp KeepApp EngA Tab Arr Kit0 OdP OdM OdK, joined. -/
import Derived.WalkKit
import Derived.WalkLawsBesides
import Derived.WalkSpells
import Derived.Deep.Draws
import Derived.Deep.QuietTactic
import Derived.BigQuiet
import Derived.Lib.Hide
import Derived.Deep.Light
import Derived.Maps.AppendAt
import Derived.Deep.AppendLies
import Derived.Deep.RegionHeld3
import Derived.Deep.MidRow
import Derived.RegionTactic
import Derived.Deep.WholeRow
import Derived.Test.YtoilipfgimcoiaaGreatProg
import Derived.Laws.StructEq
import Derived.Maps.OwnOps
import Derived.DeepKeys4
import Derived.Test.YtoilipfgimcoiaaGreatOz2
set_option linter.unusedVariables false
set_option linter.unusedSimpArgs false
namespace Go.Proofs.YtoilipfgimcoiaaGreat
open Go.RowKit
def RowAt {α : Type} (w : World) (N sz : Nat) (enc : α → List Value) (A : Option Addr) (l : List α) : Prop :=
 0 < l.length → ∃ b off, A = some ⟨b, off, none⟩ ∧ b < N ∧ ∀ k x, l[k]? = some x → ∀ j u, (enc x)[j]? = some u → w.cell? ⟨b, off + k * sz + j, none⟩ = some u
section
variable {α : Type} {w w' : World} {N N' sz : Nat} {enc : α → List Value} {A : Option Addr} {l : List α}
theorem RowAt.more (h : RowAt w N sz enc A l) (hN : N ≤ N') : RowAt w N' sz enc A l := fun h0 => by
 obtain ⟨b, off, e, hb, hc⟩ := h h0
 exact ⟨b, off, e, by omega, hc⟩
theorem RowAt.keep (h : RowAt w N sz enc A l) (hk : ∀ b o, b < N → w'.cell? ⟨b, o, none⟩ = w.cell? ⟨b, o, none⟩) : RowAt w' N sz enc A l := fun h0 => by
 obtain ⟨b, off, e, hb, hc⟩ := h h0
 exact ⟨b, off, e, hb, fun k x hx j u hu => (hk _ _ hb).trans (hc k x hx j u hu)⟩
theorem RowAt.below (h : RowAt w N sz enc A l) (hb : Below N' w w') (hN : N ≤ N') : RowAt w' N sz enc A l :=
 h.keep fun b o hlt => hb.cell (p := ⟨b, o, none⟩) (by show b < N'; omega)
end
section
variable {w w' : World} {N N' : Nat} {A : Option Addr}
end
abbrev box1 (w : World) (x : Array Value) (t : TypeId) : World := w.alloc (.cells x t)
theorem below_box1 (w : World) (x : Array Value) (t : TypeId) : Below w.heap.size w (box1 w x t) := (Below.refl _ _).alloc (Nat.le_refl _) _
def blk (A : Option Addr) : Option Nat := A.map (·.block)
def Owns {α : Type} (w : World) (base : Nat) (e : TypeId) (sz : Nat) (enc : α → List Value) (A : Option Addr) (c : Nat) (l : List α) : Prop :=
 w.ownsRow base e sz (.slice A l.length c) l.length (l.flatMap enc)
theorem flatMap_at {α : Type} {enc : α → List Value} {sz : Nat} (hsz : ∀ x, (enc x).length = sz) : ∀ (l : List α) (k r : Nat) (x : α) (u : Value), l[k]? = some x → (enc x)[r]? = some u → (l.flatMap enc)[k * sz + r]? = some u
 | [], k, r, x, u, h, _ => by simp at h
 | y :: l, 0, r, x, u, h, hu => by
   simp at h; subst h
   have hr : r < (enc y).length := (List.getElem?_eq_some_iff.1 hu).1
   rw [List.flatMap_cons, List.getElem?_append_left (by omega)]
   simpa using hu
 | y :: l, k + 1, r, x, u, h, hu => by
   rw [List.flatMap_cons, List.getElem?_append_right (by rw [hsz, Nat.add_mul]; omega)]
   have := flatMap_at hsz l k r x u (by simpa using h) hu
   rw [hsz]
   rw [show (k + 1) * sz + r - sz = k * sz + r by rw [Nat.add_mul]; omega]
   exact this
theorem flatMap_of {α : Type} {enc : α → List Value} {sz : Nat} (hsz : ∀ x, (enc x).length = sz) : ∀ (l : List α) (j : Nat) (u : Value), (l.flatMap enc)[j]? = some u → ∃ k r x, l[k]? = some x ∧ (enc x)[r]? = some u ∧ j = k * sz + r
 | [], j, u, h => by simp at h
 | y :: l, j, u, h => by
   rw [List.flatMap_cons] at h
   by_cases hj : j < (enc y).length
   · rw [List.getElem?_append_left hj] at h
     exact ⟨0, j, y, by simp, h, by simp⟩
   · rw [List.getElem?_append_right (by omega)] at h
     obtain ⟨k, r, x, hk, hr, e⟩ := flatMap_of hsz l _ u h
     refine ⟨k + 1, r, x, by simpa using hk, hr, ?_⟩
     rw [hsz] at e hj
     rw [Nat.add_mul]; omega
theorem length_flat {α : Type} {enc : α → List Value} {sz : Nat} (hsz : ∀ x, (enc x).length = sz) : ∀ (l : List α), (l.flatMap enc).length = l.length * sz
 | [] => by simp
 | y :: l => by rw [List.flatMap_cons, List.length_append, length_flat hsz l, hsz, List.length_cons, Nat.add_mul]; omega
section
variable {α : Type} {w w' : World} {base N sz : Nat} {e : TypeId} {enc : α → List Value} {A : Option Addr} {c : Nat} {l : List α}
theorem Owns.row (h : Owns w base e sz enc A c l) (hsz : ∀ x, (enc x).length = sz) : RowAt w w.heap.size sz enc A l := fun h0 => by
 obtain ⟨g, cap, hv, _, hg⟩ := World.ownsRow.form h h0
 have hA : A = some ⟨g, 0, none⟩ := by injection hv
 refine ⟨g, 0, hA, hg, fun k x hk j u hu => ?_⟩
 have := World.ownsRow.cells h (g := g) (by rw [hA]; rfl) (k * sz + j) u (flatMap_at hsz l k j x u hk hu)
 rw [Addr.add_lit, ← Nat.add_assoc] at this; exact this
theorem Owns.len (h : Owns w base e sz enc A c l) : l.length ≤ c ∧ c ≤ 9223372036854775807 := by
 rcases h.2 with ⟨hv, h0⟩ | ⟨g, cap, cur, hv, _, _, h1, h2, _⟩
 · injection hv with _ _ hc; omega
 · injection hv with _ _ hc; unfold maxLen at h2; omega
theorem Owns.lo (h : Owns w base e sz enc A c l) : ∀ k, blk A = some k → base ≤ k ∧ k < w.heap.size := fun k hk => by
 refine World.ownsRow.lt h k ?_
 cases A with
 | none => cases hk
 | some a => exact hk
theorem own_blk (A : Option Addr) (n c : Nat) : (Value.slice A n c).ownBlock = blk A := by cases A <;> rfl
theorem Owns.kept {row : Option Nat} (h : Owns w base e sz enc A c l) (hg : w.grownBy w' row) (hne : blk A = none ∨ blk A ≠ row) : Owns w' base e sz enc A c l :=
 World.ownsRow.kept h hg (by rw [own_blk]; exact hne)
theorem Owns.alloc (h : Owns w base e sz enc A c l) (o : Obj) : Owns (w.alloc o) base e sz enc A c l := World.ownsRow.alloc h o
theorem Owns.keep {B : Nat} (h : Owns w base e sz enc A c l) (hb : Below B w w') (hB : ∀ k, blk A = some k → k < B) : Owns w' base e sz enc A c l := by
 refine ⟨h.1, ?_⟩
 rcases h.2 with h2 | ⟨g, cap, cur, hv, hbase, hh, hr⟩
 · exact .inl h2
 · refine .inr ⟨g, cap, cur, hv, hbase, ?_, hr⟩
   have hA : A = some ⟨g, 0, none⟩ := by injection hv
   rw [hb.block g (hB g (by rw [hA]; rfl))]; exact hh
theorem owns_nil (w : World) (base : Nat) (e : TypeId) (sz : Nat) (enc : α → List Value) : Owns w base e sz enc none 0 [] := World.ownsRow_nil w base e sz
end
section
variable {P : Program} (w : World)
end
end Go.Proofs.YtoilipfgimcoiaaGreat
namespace Go.Proofs.YtoilipfgimcoiaaGreat
open Go.RowKit
section
variable {α : Type} {w w' : World} {lo sz : Nat} {enc : α → List Value} {A : Option Addr} {l : List α}
end
section
variable {P : Program}
theorem run_append_zero (w : World) (t ty e : TypeId) (i : TypeInfo) (ht : P.underlying t = some (.slice e)) (hi : P.info? e = some i) (g : Addr) (B : Option Addr) (m c : Nat) (hm : 0 < m) (hb : m * i.bytes ≤ 140737488355328) :
   (Builtin.append_ #[t, t] ty #[.slice (some g) 0 0, .slice B m c]).run P w = (Builtin.append_ #[t, t] ty #[.slice none 0 0, .slice B m c]).run P w := by
 have h1 : ¬ m ≤ 0 := by omega
 have h2 := growslice_fits (need := m) (old := 0) (bytes := i.bytes) hm hb
 have h3 : ¬ m = 0 := by omega
 have h4 : ¬ 281474976710656 < Builtin.nextslicecap m 0 * i.bytes := by omega
 simp [Builtin.append_, run_underlying ht, sizeOf, typeInfo, hi, Builtin.lenOf, Builtin.firstCells, loadCells, loadCellsFrom, h1, h3, h4]
theorem run_append_none (w : World) (t ty e : TypeId) (i : TypeInfo) (ht : P.underlying t = some (.slice e)) (hi : P.info? e = some i) (A B : Option Addr) (c : Nat) :
   (Builtin.append_ #[t, t] ty #[.slice A 0 0, .slice B 0 c]).run P w = .ok (.slice A 0 0) w := by
 cases A <;> cases B <;> simp [Builtin.append_, run_underlying ht, sizeOf, typeInfo, hi, Builtin.lenOf, Builtin.firstCells, loadCells, loadCellsFrom, storeCells]
end
end Go.Proofs.YtoilipfgimcoiaaGreat
namespace Go.Proofs.YtoilipfgimcoiaaGreat
open Go.RowKit
theorem own_prefix {α : Type} {w : World} {base sz c : Nat} {e : TypeId} {enc : α → List Value} {A : Option Addr} {xs ys : List α} (henc : ∀ x, (enc x).length = sz) (h : Owns w base e sz enc A c (xs ++ ys)) (hA : A ≠ none) : Owns w base e sz enc A c xs := by
 have hl := length_flat henc xs
 rcases h.2 with ⟨hv, h0⟩ | ⟨g, cap, cur, hv, hb, hh, h1, h2, h3, h4⟩
 · injection hv with h1; exact absurd h1 hA
 · injection hv with e1 _ e3
   subst e1 e3
   refine ⟨by rw [hl], .inr ⟨g, c, cur, rfl, hb, hh, by rw [List.length_append] at h1; omega, h2, h3, ?_⟩⟩
   rw [List.flatMap_append] at h4
   have : cur.toList.take (xs.length * sz) = (cur.toList.take ((xs ++ ys).length * sz)).take (xs.length * sz) := by
     rw [List.take_take, Nat.min_eq_left]
     rw [List.length_append]; exact Nat.mul_le_mul_right _ (by omega)
   rw [this, h4, ← hl]
   exact List.take_left
section
variable {P : Program} (w : World)
end
end Go.Proofs.YtoilipfgimcoiaaGreat
namespace Go.Proofs.YtoilipfgimcoiaaGreat
open Go Go.RowKit
section
variable {P : Program} {ty t : TypeId} {b off : Nat} {w : World} {v : Value}
theorem load_agg {cs : List Value} (hg : aggB P ty = some true) (hs : sizeB P ty = some cs.length) (h : w.rangeAt b off cs) : (loadVar ty ⟨b, off, none⟩).run P w = .ok (.agg cs.toArray) w := by
 unfold aggB at hg
 cases hu : P.underlying ty with
 | none => rw [hu] at hg; simp at hg
 | some d =>
   rw [hu] at hg
   refine run_loadVar_mid w b off ty cs d h hu ?_ hs
   cases d <;> simp at hg ⊢
theorem VStore.new {x : World} {K : World → Prop} {c c' : Array Value} (hx : Hid (x = w.alloc (.cells c t))) (hi : sizeB P t = some c'.size) (ho : c.size = c'.size) (h1 : c'.all (·.oneCell') = true) (hk : ∀ x', Hid (x' = w.alloc (.cells c' t)) → K x') : VStore P t w.heap.size 0 (.agg c') x K := by
 rw [hx.out]
 exact .mk _ (run_storeVar_new w t c c' hi ho h1) (hk _ (Lib.hid rfl))
theorem VStore.mid {K : World → Prop} {c : Array Value} (ht : w.there b off c.size) (hi : sizeB P ty = some c.size) (h1 : c.all (·.oneCell') = true) (hk : ∀ w', Hid (w' = w.setCells b off c.toList) → K w') : VStore P ty b off (.agg c) w K :=
 .mk _ (run_storeVar_mid w b off ty c ht hi h1) (hk _ (Lib.hid rfl))
theorem run_store1 (hi : sizeB P ty = some 1) (hc : (w.cell? ⟨b, off, none⟩).isSome = true) (hf : w.frozen? ⟨b, off, none⟩ = false) (hv : v.cells = #[v]) (h1 : v.oneCell' = true) : (storeVar ty ⟨b, off, none⟩ v).run P w = .ok () (w.setCell ⟨b, off, none⟩ v) := by
 have := run_storeCells_cells (P := P) b off [v] 0 w (fun j hj => by
   have : j = 0 := (by simpa using hj)
   subst this
   simpa using hc) (fun j hj => by
   have : j = 0 := (by simpa using hj)
   subst this
   simpa using hf) (fun u hu => by simp at hu; subst hu; exact h1)
 simp only [Nat.add_zero] at this
 unfold storeVar
 rw [Sem.run_bind, run_size hi, hv]
 simpa [World.setCells] using this
theorem VStore.cell {K : World → Prop} (hi : sizeB P ty = some 1) (hc : (w.cell? ⟨b, off, none⟩).isSome = true) (hf : w.frozen? ⟨b, off, none⟩ = false) (hv : v.cells = #[v]) (h1 : v.oneCell' = true) (hk : ∀ w', Hid (w' = w.setCell ⟨b, off, none⟩ v) → K w') : VStore P ty b off v w K :=
 .mk _ (run_store1 hi hc hf hv h1) (hk _ (Lib.hid rfl))
theorem VApp.rows {α : Type} {ty0 : TypeId} {t e : TypeId} {K : Value → World → Prop}
   (base : Nat) (sz bytes : Nat) (z : Value) (ht : P.underlying t = some (.slice e)) (hinfo : (P.info? e).map (fun i => (i.zero, i.size, i.bytes)) = some (some z, sz, bytes))
   (hzs : z.cells.size = sz) (hsz : 0 < sz) (enc : α → List Value) (henc : ∀ x, (enc x).length = sz) (hone : ∀ x, ∀ u ∈ enc x, u.oneCell' = true)
   {A : Option Addr} {c : Nat} (xs : List α) {B : Option Addr} {cB N n m : Nat} (l : List α)
   (hn : xs.length = n) (hm : l.length = m)
   (hown : Owns w base e sz enc A c xs) (hr : RowAt w N sz enc B l)
   (h63 : n + m ≤ 9223372036854775807) (hbytes : (n + m) * bytes ≤ 140737488355328) (hbase : base ≤ w.heap.size)
   (h : ∀ A' c' w', Owns w' base e sz enc A' c' (xs ++ l) → w.grownBy w' (blk A) → (blk A' = blk A ∨ blk A' = some w.heap.size) → K (.slice A' (n + m) c') w') : VApp P #[t, t] ty0 [.slice A n c, .slice B m cB] w K := by
 subst hn hm
 obtain ⟨i, hi, hz, hsize, hby⟩ := info_parts hinfo
 have key : ∃ v' w', (Builtin.append_ #[t, t] ty0 #[.slice A xs.length c, .slice B l.length cB]).run P w = .ok v' w' ∧ w'.ownsRow base e sz v' (xs.length + l.length) ((xs ++ l).flatMap enc) ∧ w.grownBy w' (blk A) ∧ (v'.ownBlock = blk A ∨ v'.ownBlock = some w.heap.size) := by
   by_cases h0 : 0 < l.length
   · obtain ⟨b, off, rfl, hb, hc⟩ := hr h0
     obtain ⟨v', w', h1, h2, h3, _, h5⟩ := run_append_own_at (P := P) w base t ty0 e i z sz bytes ht hi hz hsize hby hzs hsz (.slice A xs.length c) xs.length _ hown ⟨b, off, none⟩ l.length cB (l.flatMap enc)
       (length_flat henc l) (fun j u hu => by
         obtain ⟨k, r, x, hk, hr', rfl⟩ := flatMap_of henc l j u hu
         have := hc k x hk r u hr'
         by_cases hz0 : k * sz + r = 0
         · rw [hz0]; simp only [Addr.add, if_true]
           have e0 : off + k * sz + r = off := by omega
           rw [e0] at this; exact this
         · simp only [Addr.add, if_neg hz0]
           rw [← Nat.add_assoc]; exact this)
       (fun u hu => by obtain ⟨x, _, hux⟩ := List.mem_flatMap.1 hu; exact hone x u hux) h63 hbytes hbase
     rw [own_blk] at h3 h5
     exact ⟨v', w', h1, by rw [List.flatMap_append]; exact h2, h3, h5⟩
   · have hl : l = [] := List.eq_nil_of_length_eq_zero (by omega)
     subst hl
     cases B with
     | none =>
       refine ⟨.slice A xs.length c, w, ?_, by simp only [List.length_nil, Nat.add_zero, List.append_nil]; exact hown, World.grownBy.refl w _, .inl (own_blk _ _ _)⟩
       rcases hown.2 with ⟨hv, _⟩ | ⟨g, cap, cur, hv, _, _, hnc, _⟩
       · rw [hv]; simp [Builtin.append_, run_underlying ht, sizeOf, typeInfo, hi, Builtin.lenOf, Builtin.firstCells]
       · rw [hv]; simp [Builtin.append_, run_underlying ht, sizeOf, typeInfo, hi, Builtin.lenOf, Builtin.firstCells, hnc, storeCells]
     | some ad =>
       obtain ⟨v', w', h1, h2, h3, _, h5⟩ := run_append_own_at (P := P) w base t ty0 e i z sz bytes ht hi hz hsize hby hzs hsz (.slice A xs.length c) xs.length _ hown ad 0 cB []
         (by simp) (fun j u hu => by simp at hu) (fun u hu => by simp at hu) h63 hbytes hbase
       rw [own_blk] at h3 h5
       exact ⟨v', w', h1, by simpa using h2, h3, h5⟩
 obtain ⟨v', w', hrun, h2, h3, h4⟩ := key
 have hv : ∃ A' c', v' = .slice A' (xs.length + l.length) c' := by
   rcases h2.2 with ⟨hv, h0⟩ | ⟨g, cap, cur, hv, _⟩
   · exact ⟨none, 0, by rw [hv, h0]⟩
   · exact ⟨_, _, hv⟩
 obtain ⟨A', c', rfl⟩ := hv
 rw [own_blk] at h4
 exact .mk _ _ hrun (h A' c' w' (by unfold Owns; rw [List.length_append]; exact h2) h3 h4)
theorem VApp.keep {α : Type} {ty0 : TypeId} {t e : TypeId} {K : Value → World → Prop}
   (base : Nat) (sz bytes : Nat) (z : Value) (ht : P.underlying t = some (.slice e)) (hinfo : (P.info? e).map (fun i => (i.zero, i.size, i.bytes)) = some (some z, sz, bytes))
   (hzs : z.cells.size = sz) (hsz : 0 < sz) (enc : α → List Value) (henc : ∀ x, (enc x).length = sz) (hone : ∀ x, ∀ u ∈ enc x, u.oneCell' = true)
   {A : Option Addr} {c : Nat} (xs : List α) {gB cB n : Nat} (y : α)
   (hn : xs.length = n) (hown : Owns w base e sz enc A c xs) (hr : ∀ j u, (enc y)[j]? = some u → w.cell? ⟨gB, j, none⟩ = some u)
   (h63 : n + 1 ≤ 9223372036854775807) (hbytes : (n + 1) * bytes ≤ 140737488355328) (hbase : base ≤ w.heap.size)
   (h : ∀ A' c' w', Owns w' base e sz enc A' c' (xs ++ [y]) → Owns w' base e sz enc A c xs → w.grownBy w' (blk A) → (blk A' = blk A ∨ blk A' = some w.heap.size) → K (.slice A' (n + 1) c') w') : VApp P #[t, t] ty0 [.slice A n c, .slice (some ⟨gB, 0, none⟩) 1 cB] w K := by
 subst hn
 obtain ⟨i, hi, hz, hsize, hby⟩ := info_parts hinfo
 have hnews : ∀ j u, (enc y)[j]? = some u → w.cell? ((⟨gB, 0, none⟩ : Addr).add j) = some u := fun j u hu => by
   rw [Addr.add_lit]; simpa using hr j u hu
 have hfm : ([y] : List α).flatMap enc = enc y := by simp
 obtain ⟨v', w', hrun, h2, h3, h5, h4⟩ := run_append_own_at (P := P) w base t ty0 e i z sz bytes ht hi hz hsize hby hzs hsz (.slice A xs.length c) xs.length _ hown ⟨gB, 0, none⟩ 1 cB (enc y)
   (by rw [henc, Nat.one_mul]) hnews (hone y) h63 hbytes hbase
 obtain ⟨g', cap', rfl, hg1, hg2⟩ := World.ownsRow.form h2 (by omega)
 simp only [own_blk] at h3 h4
 have hO : Owns w' base e sz enc (some ⟨g', 0, none⟩) cap' (xs ++ [y]) := by unfold Owns; rw [List.flatMap_append, hfm, List.length_append]; exact h2
 have hold : Owns w' base e sz enc A c xs := by
   rcases hown.2 with ⟨hv, h0⟩ | ⟨g, cap, cur, hv, hb, hh, k1, k2, k3, k4⟩
   · injection hv with e1 _ e3
     subst e1 e3
     obtain rfl : xs = [] := List.eq_nil_of_length_eq_zero h0
     exact owns_nil _ _ _ _ _
   · injection hv with e1 _ e3
     subst e1 e3
     by_cases hroom : xs.length + 1 ≤ c
     · have hr' := run_append_room (P := P) w t ty0 e i ht hi g xs.length c cur hh ⟨gB, 0, none⟩ 1 cB (enc y) (by rw [henc, hsize, Nat.one_mul]) hnews (hone y) hroom (by rw [henc, k3, hsize]; have := Nat.mul_le_mul_right sz hroom; rw [Nat.add_mul, Nat.one_mul] at this; exact this)
       rw [hrun] at hr'
       injection hr' with e1 e2
       injection e1 with e3 _ e4
       injection e3 with e3; injection e3 with e3
       subst e3 e4
       exact own_prefix henc hO (by simp)
     · have hr' := run_append_grow (P := P) w t ty0 e i z ht hi hz ⟨g, 0, none⟩ xs.length c (xs.flatMap enc) (by rw [hsize, length_flat henc]) (hown.cells (g := g) rfl) ⟨gB, 0, none⟩ 1 cB (enc y) (by rw [henc, hsize, Nat.one_mul]) hnews (by omega) (by omega) (growslice_fits (by omega) (by rw [hby]; exact hbytes))
       rw [hrun] at hr'
       injection hr' with _ e2
       rw [e2]
       exact (show Owns w.drew base e sz enc (some ⟨g, 0, none⟩) c xs from hown).alloc _
 exact .mk _ _ hrun (h _ _ w' hO hold h3 h4)
end
end Go.Proofs.YtoilipfgimcoiaaGreat
namespace Go.Proofs.YtoilipfgimcoiaaGreat
open Go
def tab : Tab where
 fd := [(7, [(0, 1, false), (1, 1, false), (2, 1, false), (3, 1, false)]), (8, [(0, 1, false), (1, 1, false), (2, 1, false), (3, 1, false)]), (13, [(0, 1, false), (1, 1, false)]), (14, [(0, 1, false), (1, 1, false)]), (18, [(0, 1, false)]), (19, [(0, 1, false)]), (32, [(0, 1, false), (1, 1, false), (2, 1, false)]), (33, [(0, 1, false), (1, 1, false), (2, 1, false)]), (35, [(0, 3, true), (3, 3, true), (6, 3, true), (9, 1, false)]), (36, [(0, 3, true), (3, 3, true), (6, 3, true), (9, 1, false)]), (37, [(0, 1, false), (1, 1, false), (2, 1, false), (3, 1, false)]), (38, [(0, 1, false), (1, 1, false), (2, 1, false), (3, 1, false)]), (40, [(0, 4, true), (4, 1, false)]), (41, [(0, 4, true), (4, 1, false)]), (43, [(0, 1, false), (1, 1, false), (2, 1, false), (3, 1, false)]), (44, [(0, 1, false), (1, 1, false), (2, 1, false), (3, 1, false)]), (45, [(0, 1, false), (1, 1, false)]), (46, [(0, 1, false), (1, 1, false)]), (47, [(0, 1, false), (1, 4, true), (5, 1, false), (6, 1, false), (7, 2, true)]), (48, [(0, 1, false), (1, 4, true), (5, 1, false), (6, 1, false), (7, 2, true)]), (49, [(0, 4, true), (4, 1, false), (5, 1, false)]), (50, [(0, 4, true), (4, 1, false), (5, 1, false)]), (51, [(0, 1, false), (1, 1, false), (2, 1, false), (3, 1, false), (4, 5, true), (9, 1, false), (10, 9, true), (19, 6, true)]), (52, [(0, 1, false), (1, 1, false), (2, 1, false), (3, 1, false), (4, 5, true), (9, 1, false), (10, 9, true), (19, 6, true)]), (61, [(0, 1, false), (1, 1, false), (2, 1, false), (3, 1, false), (4, 1, false), (5, 1, false), (6, 1, false), (7, 1, false), (8, 1, false), (9, 1, false), (10, 1, false), (11, 1, false), (12, 1, false), (13, 1, false), (14, 1, false), (15, 1, false), (16, 1, false)]), (62, [(0, 1, false), (1, 1, false), (2, 1, false), (3, 1, false), (4, 1, false), (5, 1, false), (6, 1, false), (7, 1, false), (8, 1, false), (9, 1, false), (10, 1, false), (11, 1, false), (12, 1, false), (13, 1, false), (14, 1, false), (15, 1, false), (16, 1, false)]), (64, [(0, 4, true), (4, 1, false), (5, 1, false), (6, 1, false)]), (65, [(0, 4, true), (4, 1, false), (5, 1, false), (6, 1, false)]), (69, [(0, 1, false), (1, 1, false), (2, 1, false)]), (70, [(0, 1, false), (1, 1, false), (2, 1, false)]), (81, [(0, 1, false), (1, 1, false), (2, 1, false), (3, 1, false)]), (82, [(0, 1, false), (1, 1, false), (2, 1, false), (3, 1, false)]), (104, [(0, 1, false), (1, 1, false), (2, 1, false), (3, 1, false), (4, 1, false)]), (105, [(0, 1, false), (1, 1, false), (2, 1, false), (3, 1, false), (4, 1, false)]), (106, [(0, 1, false), (1, 1, false), (2, 1, false), (3, 1, false), (4, 1, false)]), (107, [(0, 1, false), (1, 1, false), (2, 1, false), (3, 1, false), (4, 1, false)]), (114, [(0, 4, true), (4, 1, false), (5, 1, false), (6, 1, false), (7, 1, false), (8, 16, true), (24, 16, true), (40, 16, true), (56, 16, true), (72, 16, true), (88, 1, false), (89, 1, false), (90, 1, false), (91, 1, false), (92, 1, false), (93, 1, false)]), (115, [(0, 4, true), (4, 1, false), (5, 1, false), (6, 1, false), (7, 1, false), (8, 16, true), (24, 16, true), (40, 16, true), (56, 16, true), (72, 16, true), (88, 1, false), (89, 1, false), (90, 1, false), (91, 1, false), (92, 1, false), (93, 1, false)]), (117, [(0, 4, true), (4, 1, false), (5, 1, false), (6, 1, false), (7, 1, false), (8, 1, false), (9, 1, false), (10, 1, false), (11, 1, false), (12, 1, false), (13, 1, false)]), (118, [(0, 4, true), (4, 1, false), (5, 1, false), (6, 1, false), (7, 1, false), (8, 1, false), (9, 1, false), (10, 1, false), (11, 1, false), (12, 1, false), (13, 1, false)]), (124, [(0, 4, true), (4, 1, false)]), (125, [(0, 4, true), (4, 1, false)]), (176, [(0, 1, false), (1, 1, false), (2, 1, false), (3, 1, false)]), (177, [(0, 1, false), (1, 1, false), (2, 1, false), (3, 1, false)]), (179, [(0, 0, true)]), (180, [(0, 0, true)]), (187, [(0, 1, false), (1, 1, false), (2, 1, false), (3, 1, false), (4, 1, false), (5, 1, false), (6, 1, false), (7, 1, false), (8, 1, false), (9, 1, false), (10, 1, false)]), (188, [(0, 1, false), (1, 1, false), (2, 1, false), (3, 1, false), (4, 1, false), (5, 1, false), (6, 1, false), (7, 1, false), (8, 1, false), (9, 1, false), (10, 1, false)])]
 es := [(22, 25), (30, 5), (31, 5), (34, 17), (39, 3), (42, 1), (55, 1), (56, 1), (57, 2), (58, 9), (59, 4), (60, 4), (116, 5)]
 ar := [(27, 3, 1), (29, 3, 1), (110, 16, 1), (111, 16, 1), (112, 16, 1), (178, 0, 1)]
 ik := [(2, .i64), (3, .i64), (5, .u8), (6, .u8), (12, .u64), (21, .i32), (71, .i64), (145, .u64), (150, .u32), (156, .i64), (165, .u64), (167, .u64), (181, .u8), (182, .u8), (185, .i32), (186, .i32)]
 kd := [(4, 1), (15, 2), (16, 2), (17, 2), (22, 3), (25, 2), (26, 2), (28, 2), (30, 3), (31, 3), (34, 3), (39, 3), (42, 3), (55, 3), (56, 3), (57, 3), (58, 3), (59, 3), (60, 3), (102, 2), (103, 2), (116, 3), (141, 2), (142, 2), (171, 2), (173, 2), (184, 2)]
 eg := [7, 8, 13, 14, 18, 19, 27, 29, 32, 33, 35, 36, 37, 38, 40, 41, 43, 44, 45, 46, 47, 48, 49, 50, 51, 52, 61, 62, 64, 65, 69, 70, 81, 82, 104, 105, 106, 107, 110, 111, 112, 114, 115, 117, 118, 124, 125, 176, 177, 178, 179, 180, 187, 188]
 bad := [0, 1, 145, 146, 147, 148, 149, 150, 151, 152, 153, 154, 155, 156, 157, 158, 159, 160, 161]
set_option maxRecDepth 100000 in
theorem tab_ok : tabB Tryz.prog tab = true := by kernel_rfl
end Go.Proofs.YtoilipfgimcoiaaGreat
namespace Go.Proofs.YtoilipfgimcoiaaGreat
open Go.RowKit
section
variable {P : Program} (w : World)
end
section
variable {P : Program} {ops : Array Oper} {rest : List Oper} {op : Oper} {a : Act} {w : World} {Q : Exit → Act → World → Prop}
end
section
variable {w : World}
theorem grown_cell (w : World) (g k : Nat) (v : Value) : w.grownBy (w.setCell ⟨g, k, none⟩ v) (some g) :=
 ⟨rfl, rfl, rfl, by rw [World.size_setCell]; exact Nat.le_refl _, fun i _ hne => Below.heap_setCell _ _ _ _ (fun e => hne (by rw [e]))⟩
theorem grown_sets (g : Nat) : ∀ (vs : List Value) (o : Nat) (w : World), w.grownBy (w.setCells g o vs) (some g)
 | [], o, w => World.grownBy.refl w _
 | v :: vs, o, w => (grown_cell w g o v).trans (grown_sets g vs (o + 1) _)
end
end Go.Proofs.YtoilipfgimcoiaaGreat
namespace Go.Proofs.YtoilipfgimcoiaaGreat
open Go Go.RowKit
theorem range_sub {w : World} {b o n : Nat} {l m : List Value} (h : w.rangeAt b o l) (k : Nat) (hk : (l.drop k).take n = m) : w.rangeAt b (o + k) m := fun j u hu => by
 rw [Nat.add_assoc]
 refine h (k + j) u ?_
 rw [← hk, List.getElem?_take, List.getElem?_drop] at hu
 split at hu
 · exact hu
 · cases hu
theorem Owns.same {α : Type} {w w' : World} {base sz c : Nat} {e : TypeId} {enc : α → List Value} {A : Option Addr} {l : List α} (h : Owns w base e sz enc A c l) (hb : ∀ g, blk A = some g → w'.heap[g]? = w.heap[g]?) : Owns w' base e sz enc A c l := by
 refine ⟨h.1, ?_⟩
 rcases h.2 with h2 | ⟨g, cap, cur, hv, h3, h4, h5⟩
 · exact .inl h2
 · injection hv with e1 e2 e3
   subst e1; subst e3
   exact .inr ⟨g, c, cur, rfl, h3, (hb g rfl).trans h4, h5⟩
section
variable {α : Type} {w : World} {base sz c : Nat} {e : TypeId} {enc : α → List Value} {A : Option Addr} {l : List α}
end
section
variable {α : Type} {w w' : World} {lo sz : Nat} {enc : α → List Value} {A : Option Addr} {l : List α}
end
theorem there_set {w : World} {b o n : Nat} (h : w.there b o n) (p : Addr) (v : Value) : (w.setCell p v).there b o n := fun j hj => by
 rw [World.frozen?_setCell]
 obtain ⟨u, hu⟩ := Option.isSome_iff_exists.1 (h j hj).1
 obtain ⟨v', hv'⟩ := RowKit.cell?_setCell_some (p := p) (x := v) hu
 exact ⟨by rw [hv']; rfl, (h j hj).2⟩
theorem range_new (w : World) (cs : Array Value) (t : TypeId) : (w.alloc (.cells cs t)).rangeAt w.heap.size 0 cs.toList := fun j u hu => by
 rw [Nat.zero_add, World.cell?_alloc_at _ _ _ _ rfl]; simpa using hu
theorem there_new (w : World) (cs : Array Value) (t : TypeId) : (w.alloc (.cells cs t)).there w.heap.size 0 cs.size := fun j hj => by
 rw [Nat.zero_add, World.cell?_alloc_at _ _ _ _ rfl, World.frozen?_alloc_at _ _ _ _ rfl]
 exact ⟨by rw [Array.getElem?_eq_getElem hj]; rfl, rfl⟩
theorem range_same {w w' : World} {b o : Nat} {l : List Value} (h : w.rangeAt b o l) (hb : w'.heap[b]? = w.heap[b]?) : w'.rangeAt b o l := fun j u hu => (World.cell?_of_block (a := ⟨b, o + j, none⟩) hb).trans (h j u hu)
theorem there_same {w w' : World} {b o n : Nat} (h : w.there b o n) (hb : w'.heap[b]? = w.heap[b]?) : w'.there b o n := fun j hj => by
 rw [World.cell?_of_block (a := ⟨b, o + j, none⟩) hb, World.frozen?_of_block (a := ⟨b, o + j, none⟩) hb]; exact h j hj
theorem cell_out {w : World} {b o j : Nat} {vs : List Value} {v : Value} (h : w.cell? ⟨b, j, none⟩ = some v) (hap : j < o ∨ o + vs.length ≤ j) : (w.setCells b o vs).cell? ⟨b, j, none⟩ = some v := by
 rw [World.cell?_setCells_out b vs o w ⟨b, j, none⟩ (fun _ _ => hap)]; exact h
theorem rng_in {w : World} {b o n : Nat} {vs : List Value} (h : w.there b 0 n) (hn : o + vs.length ≤ n) : (w.setCells b o vs).rangeAt b o vs := World.rangeAt_setCells_same w b o vs (fun j hj => by have := h (o + j) (by omega); rwa [Nat.zero_add] at this)
structure Ro (R : Nat → Prop) (K K' : Nat → Nat) (w w' : World) : Prop where
 os : w'.os = w.os
 tape : w'.tape = w.tape
 output : w'.output = w.output
 size : w.heap.size ≤ w'.heap.size
 same : ∀ b, b < w.heap.size → ¬ R (K b) → w'.heap[b]? = w.heap[b]?
 kk : ∀ b, b < w.heap.size → K' b = K b
section
variable {R R' : Nat → Prop} {K K' K'' : Nat → Nat} {w w' w'' : World}
theorem Ro.refl (R : Nat → Prop) (K : Nat → Nat) (w : World) : Ro R K K w w := ⟨rfl, rfl, rfl, Nat.le_refl _, fun _ _ _ => rfl, fun _ _ => rfl⟩
theorem Ro.trans (a : Ro R K K' w w') (b : Ro R K' K'' w' w'') : Ro R K K'' w w'' :=
 ⟨b.os.trans a.os, b.tape.trans a.tape, b.output.trans a.output, Nat.le_trans a.size b.size, fun k hk hn => (b.same k (Nat.lt_of_lt_of_le hk a.size) (by rw [a.kk k hk]; exact hn)).trans (a.same k hk hn), fun k hk => (b.kk k (Nat.lt_of_lt_of_le hk a.size)).trans (a.kk k hk)⟩
theorem Ro.more (a : Ro R K K' w w') (h : ∀ r, R r → R' r) : Ro R' K K' w w' := ⟨a.os, a.tape, a.output, a.size, fun k hk hn => a.same k hk (fun e => hn (h _ e)), a.kk⟩
theorem Ro.below (hb : Below w.heap.size w w') : Ro R K K w w' := ⟨hb.os, hb.tape, hb.output, hb.size, fun k hk _ => hb.block k hk, fun _ _ => rfl⟩
theorem Ro.grown {row : Option Nat} (hg : w.grownBy w' row) (hr : ∀ b, row = some b → R (K b)) : Ro R K K w w' := ⟨hg.os, hg.tape, hg.output, hg.size, fun k hk hn => hg.block k hk (fun e => hn (hr k e.symm)), fun _ _ => rfl⟩
theorem Ro.cell {b : Nat} (hr : R (K b)) (o : Nat) (v : Value) : Ro R K K w (w.setCell ⟨b, o, none⟩ v) := .grown (grown_cell w b o v) fun k hk => by injection hk with hk; rw [← hk]; exact hr
theorem Ro.role (a : Ro R K K w w') (h : ∀ b, b < w.heap.size → K' b = K b) : Ro R K K' w w' := ⟨a.os, a.tape, a.output, a.size, a.same, h⟩
theorem Ro.drew (a : Ro R K K' w w') : Ro R K K' w w'.drew := ⟨a.os, a.tape, a.output, a.size, a.same, a.kk⟩
end
def RowK {α : Type} (w : World) (K : Nat → Nat) (sz : Nat) (enc : α → List Value) (A : Option Addr) (l : List α) : Prop :=
 0 < l.length → ∃ b off, A = some ⟨b, off, none⟩ ∧ b < w.heap.size ∧ K b = 0 ∧ ∀ k x, l[k]? = some x → ∀ j u, (enc x)[j]? = some u → w.cell? ⟨b, off + k * sz + j, none⟩ = some u
section
variable {α : Type} {R : Nat → Prop} {K K' : Nat → Nat} {w w' : World} {sz c r : Nat} {e : TypeId} {enc : α → List Value} {A : Option Addr} {l : List α}
theorem RowK.row (h : RowK w K sz enc A l) : RowAt w w.heap.size sz enc A l := fun h0 => by
 obtain ⟨g, off, e, h1, _, h3⟩ := h h0
 exact ⟨g, off, e, h1, h3⟩
theorem RowK.ro (h : RowK w K sz enc A l) (q : Ro R K K' w w') (h0 : ¬ R 0) : RowK w' K' sz enc A l := fun hl => by
 obtain ⟨g, off, e, h1, h2, h3⟩ := h hl
 have hq := q.same g h1 (by rw [h2]; exact h0)
 exact ⟨g, off, e, Nat.lt_of_lt_of_le h1 q.size, (q.kk g h1).trans h2, fun k x hx j u hu => (World.cell?_of_block (a := ⟨g, _, none⟩) hq).trans (h3 k x hx j u hu)⟩
theorem RowK.at_ (h : RowAt w w.heap.size sz enc A l) (hA : ∀ b, blk A = some b → K b = 0) : RowK w K sz enc A l := fun h0 => by
 obtain ⟨g, off, e, h1, h3⟩ := h h0
 exact ⟨g, off, e, h1, hA g (by rw [e]; rfl), h3⟩
end
section
variable {R : Nat → Prop} {K K' : Nat → Nat} {w w1 w2 w' : World}
def roleN (K : Nat → Nat) (A' : Option Addr) (r : Nat) : Nat → Nat := fun b => if blk A' = some b then r else K b
theorem roleN_old {A A' : Option Addr} {r : Nat} (hA : blk A' = blk A ∨ blk A' = some w.heap.size) (hr : ∀ b, blk A = some b → K b = r) : ∀ b, b < w.heap.size → roleN K A' r b = K b := fun b hb => by
 unfold roleN
 split
 · rename_i e
   rcases hA with h1 | h1
   · exact (hr b (h1 ▸ e)).symm
   · rw [h1] at e; injection e with e; omega
 · rfl
theorem Ro.app {A A' : Option Addr} {r : Nat} (hg : w.grownBy w' (blk A)) (hA : blk A' = blk A ∨ blk A' = some w.heap.size) (hr : ∀ b, blk A = some b → K b = r) : Ro (· = r) K (roleN K A' r) w w' :=
 (Ro.grown hg fun b hb => hr b hb).role (roleN_old hA hr)
end
def Sm (l : List Nat) (w W : World) : Prop := ∀ b ∈ l, W.heap[b]? = w.heap[b]?
theorem Sm.refl (l : List Nat) (w : World) : Sm l w w := fun _ _ => rfl
theorem Sm.below {l : List Nat} {w W : World} (hb : Below w.heap.size w W) (hl : ∀ b ∈ l, b < w.heap.size) : Sm l w W := fun b h => hb.block b (hl b h)
theorem Sm.trans {l : List Nat} {w W V : World} (h : Sm l w W) (h' : Sm l W V) : Sm l w V := fun b hb => (h' b hb).trans (h b hb)
section
variable {w : World} {l : List Nat}
theorem cell_sm {b o : Nat} {v : Value} {W : World} (hc : w.cell? ⟨b, o, none⟩ = some v) (hl : b ∈ l) (hW : Sm l w W) : W.cell? ⟨b, o, none⟩ = some v := (World.cell?_of_block (a := ⟨b, o, none⟩) (hW b hl)).trans hc
end
section
variable {K : Nat → Nat} {w : World}
end
end Go.Proofs.YtoilipfgimcoiaaGreat
namespace Go.Proofs.YtoilipfgimcoiaaGreat
structure Vd where
 e : Int
 l : Int
 i : Int
 c : Int
deriving DecidableEq
structure Sl where
 s : Nat
 q : Nat
deriving DecidableEq
structure Dt where
 s : Nat
 q : Nat
 st : Nat
 b : List Int
def Dt.sl (d : Dt) : Sl := ⟨d.s, d.q⟩
structure Os where
 id : Vd
 mem : List Nat
 self : Nat
 win : Nat
 frz : Bool
 seen : Nat → Bool
 taken : Nat → Nat
 placed : Nat → Nat
 gone : Nat → Nat
 told : Nat → Nat
 held : List Dt
 queue : List Sl
 slots : List Sl
 pre : Nat
 done : Nat
 mine : Nat
def upN {α : Type} (f : Nat → α) (k : Nat) (v : α) : Nat → α := fun j => if j = k then v else f j
theorem upN_same {α : Type} (f : Nat → α) (k : Nat) (v : α) : upN f k v k = v := if_pos rfl
theorem upN_ne {α : Type} (f : Nat → α) {k j : Nat} (v : α) (h : j ≠ k) : upN f k v j = f j := if_neg h
def Os.seq (o : Os) : Bool := decide (o.mem.head? = some o.self)
def Os.known (o : Os) : Nat := o.pre + o.slots.length
def Os.most (o : Os) : Nat := o.mem.length * o.win
def Os.keep (o : Os) (d : Dt) : Os := { o with held := o.held ++ [d], taken := upN o.taken d.s d.q, queue := if o.seq = true then o.queue ++ [d.sl] else o.queue }
def Os.rise1 (o : Os) : Os := match o.slots with
 | [] => o
 | s :: r => { o with slots := r, gone := upN o.gone s.s (o.gone s.s + 1), held := o.held.filter (fun d => decide (d.sl ≠ s)), pre := o.pre + 1 }
def Os.riseK (o : Os) : Nat → Os
 | 0 => o
 | k + 1 => (o.riseK k).rise1
def Os.rise (o : Os) (n : Nat) : Os := o.riseK (n - o.pre)
def leastTo (o : Os) : List Nat → Nat → Nat
 | [], n => n
 | q :: r, n => leastTo o r (if q = o.self then n else min n (o.told q))
def Os.least (o : Os) : Nat := leastTo o o.mem o.done
def Os.free (o : Os) : Int := if o.frz = true then 0 else (o.win : Int) - ((o.taken o.self : Int) - (o.gone o.self : Int))
def Os.stand (o : Os) (s : Sl) : Os := { o with slots := o.slots ++ [s], placed := upN o.placed s.s (o.placed s.s + 1) }
def Os.new (id : Vd) (mem : List Nat) (self win : Nat) : Os := ⟨id, mem, self, win, false, upN (fun _ => false) self true, fun _ => 0, fun _ => 0, fun _ => 0, fun _ => 0, [], [], [], 0, 0, 0⟩
end Go.Proofs.YtoilipfgimcoiaaGreat
namespace Go.Proofs.YtoilipfgimcoiaaGreat
open Go Go.RowKit
theorem VW.run {P : Program} {o : Oper} {fr : Fr} {w w' : World} {K : Value → World → Prop} {v : Value} (h : ∀ a : Act, (∀ x u, fev fr x = some u → a.eval x = u) → (execOp a.eval o).run P w = .ok (.value v) w') (hk : K v w') : VW P o fr w K :=
 .mk fun a ha Q next hn => wp_of_run (h a ha) (hn _ _ hk)
theorem VW.skip {P : Program} {o : Oper} {fr : Fr} {w w' : World} {K : Value → World → Prop} (h : ∀ a : Act, (∀ x u, fev fr x = some u → a.eval x = u) → (execOp a.eval o).run P w = .ok .skip w') (hk : K undef w') : VW P o fr w K :=
 .mk fun a ha Q next hn => by unfold Oper.wp; rw [h a ha]; exact hn _ _ hk
def eNat (n : Nat) : List Value := [.int .i64 n]
def eByte (v : Int) : List Value := [.int .u8 v]
def eSl (x : Sl) : List Value := [.int .i64 x.s, .int .i64 x.q]
theorem one_eSl (x : Sl) : ∀ u ∈ eSl x, u.oneCell' = true := by intro u hu; simp [eSl] at hu; rcases hu with rfl | rfl <;> rfl
theorem one_eByte (x : Int) : ∀ u ∈ eByte x, u.oneCell' = true := by intro u hu; rw [List.mem_singleton.1 hu]; rfl
theorem one_eNat (x : Nat) : ∀ u ∈ eNat x, u.oneCell' = true := by intro u hu; rw [List.mem_singleton.1 hu]; rfl
def OwnO {α : Type} (w : World) (K : Nat → Nat) (r sz : Nat) (enc : α → List Value) (A : Option Addr) (c : Nat) (l : List α) : Prop :=
 (A = none ∧ l = [] ∧ c = 0) ∨ ∃ g off, A = some ⟨g, off, none⟩ ∧ g < w.heap.size ∧ K g = r ∧ l.length ≤ c ∧ w.there g off (c * sz) ∧ ∀ k x, l[k]? = some x → ∀ j u, (enc x)[j]? = some u → w.cell? ⟨g, off + k * sz + j, none⟩ = some u
section
variable {α : Type} {R : Nat → Prop} {K K' : Nat → Nat} {w w' : World} {sz c r : Nat} {enc : α → List Value} {A : Option Addr} {l : List α}
theorem there_sameO {b o n : Nat} (h : w.there b o n) (hb : w'.heap[b]? = w.heap[b]?) : w'.there b o n := fun j hj => by
 rw [World.cell?_of_block (a := ⟨b, o + j, none⟩) hb, World.frozen?_of_block (a := ⟨b, o + j, none⟩) hb]; exact h j hj
theorem OwnO.ro (h : OwnO w K r sz enc A c l) (q : Ro R K K' w w') (hr : ¬ R r) : OwnO w' K' r sz enc A c l := by
 rcases h with h | ⟨g, off, e, h1, h2, h3, h4, h5⟩
 · exact .inl h
 · have hb := q.same g h1 (by rw [h2]; exact hr)
   exact .inr ⟨g, off, e, Nat.lt_of_lt_of_le h1 q.size, (q.kk g h1).trans h2, h3, there_sameO h4 hb, fun k x hx j u hu => (World.cell?_of_block (a := ⟨g, _, none⟩) hb).trans (h5 k x hx j u hu)⟩
theorem OwnO.nil (w : World) (K : Nat → Nat) (r sz : Nat) (enc : α → List Value) : OwnO w K r sz enc none 0 [] := .inl ⟨rfl, rfl, rfl⟩
theorem OwnO.rl (h : OwnO w K r sz enc A c l) : ∀ b, blk A = some b → b < w.heap.size ∧ K b = r := fun b hb => by
 rcases h with ⟨rfl, -, -⟩ | ⟨g, off, rfl, h1, h2, -⟩
 · cases hb
 · injection hb with hb; subst hb; exact ⟨h1, h2⟩
def tailA (sz c : Nat) (A : Option Addr) : Option Addr := if c = 1 then A else A.map (·.add (1 * sz))
theorem OwnO.tail {x : α} (h : OwnO w K r sz enc A c (x :: l)) : OwnO w K r sz enc (tailA sz c A) (c - 1) l := by
 rcases h with ⟨-, e, -⟩ | ⟨g, off, rfl, h1, h2, h3, h4, h5⟩
 · cases e
 · unfold tailA
   simp only [List.length_cons] at h3
   split
   · rename_i e
     obtain rfl : l = [] := List.eq_nil_of_length_eq_zero (by omega)
     exact .inr ⟨g, off, rfl, h1, h2, by simp, fun j hj => absurd hj (by rw [e]; simp), fun k x hx => by simp at hx⟩
   · refine .inr ⟨g, off + sz, ?_, h1, h2, by omega, fun j hj => ?_, fun k y hy j u hu => ?_⟩
     · rw [Option.map_some, Addr.add_mid, Nat.one_mul]
     · obtain ⟨d, rfl⟩ : ∃ d, c = d + 1 := ⟨c - 1, by omega⟩
       rw [Nat.add_sub_cancel] at hj
       have := h4 (sz + j) (by rw [Nat.add_mul]; omega)
       rwa [← Nat.add_assoc] at this
     · have := h5 (k + 1) y (by rw [List.getElem?_cons_succ]; exact hy) j u hu
       rw [show off + sz + k * sz + j = off + (k + 1) * sz + j by rw [Nat.add_mul]; omega]
       exact this
theorem OwnO.head {x : α} (h : OwnO w K r sz enc A c (x :: l)) : ∃ g off, A = some ⟨g, off, none⟩ ∧ g < w.heap.size ∧ w.rangeAt g off (enc x) := by
 rcases h with ⟨-, e, -⟩ | ⟨g, off, rfl, h1, h2, h3, h4, h5⟩
 · cases e
 · refine ⟨g, off, rfl, h1, fun j u hu => ?_⟩
   have := h5 0 x rfl j u hu
   rwa [Nat.zero_mul, Nat.add_zero] at this
theorem OwnO.row (h : OwnO w K r sz enc A c l) : RowAt w w.heap.size sz enc A l := fun hl => by
 rcases h with ⟨-, e, -⟩ | ⟨g, off, rfl, h1, h2, h3, h4, h5⟩
 · rw [e] at hl; exact absurd hl (by simp)
 · exact ⟨g, off, rfl, h1, h5⟩
end
theorem VApp.offG {P : Program} {α : Type} {ty0 : TypeId} {t e : TypeId} {KK : Value → World → Prop} {w : World} {K : Nat → Nat} {r : Nat}
   (sz bytes : Nat) (z : Value) (ht : P.underlying t = some (.slice e)) (hinfo : (P.info? e).map (fun i => (i.zero, i.size, i.bytes)) = some (some z, sz, bytes))
   (hzs : z.cells.size = sz) (hsz : 0 < sz) (enc : α → List Value) (henc : ∀ x, (enc x).length = sz) (hone : ∀ x, ∀ u ∈ enc x, u.oneCell' = true)
   {A : Option Addr} {c : Nat} (xs : List α) {gB cB n : Nat} (y : α)
   (hn : xs.length = n) (hown : OwnO w K r sz enc A c xs) (hr : ∀ j u, (enc y)[j]? = some u → w.cell? ⟨gB, j, none⟩ = some u) (kz : ∀ b, w.heap.size ≤ b → K b = 0)
   (h63 : n + 1 ≤ 9223372036854775807) (hbytes : (n + 1) * bytes ≤ 140737488355328)
   (h : ∀ A' c' K' w', OwnO w' K' r sz enc A' c' (xs ++ [y]) → Ro (· = r) K K' w w' → (∀ b, w'.heap.size ≤ b → K' b = 0) → ((A' = A ∧ c' = c ∧ A ≠ none ∧ w.grownBy w' (blk A)) ∨ ((∀ g, blk A' = some g → w.heap.size ≤ g) ∧ w.grownBy w' none)) → KK (.slice A' (n + 1) c') w') : VApp P #[t, t] ty0 [.slice A n c, .slice (some ⟨gB, 0, none⟩) 1 cB] w KK := by
 subst hn
 obtain ⟨i, hi, hz, hsize, hby⟩ := info_parts hinfo
 have hnews : ∀ j u, (enc y)[j]? = some u → w.cell? ((⟨gB, 0, none⟩ : Addr).add j) = some u := fun j u hu => by
   rw [Addr.add_lit]; simpa using hr j u hu
 have hfm : ([y] : List α).flatMap enc = enc y := by simp
 have fresh : ∀ v' w', w'.ownsRow w.heap.size e sz v' (xs.length + 1) ((xs ++ [y]).flatMap enc) → w.grownBy w' none → (Builtin.append_ #[t, t] ty0 #[.slice A xs.length c, .slice (some ⟨gB, 0, none⟩) 1 cB]).run P w = .ok v' w' → VApp P #[t, t] ty0 [.slice A xs.length c, .slice (some ⟨gB, 0, none⟩) 1 cB] w KK := fun v' w' h2 hg hrun => by
   obtain ⟨g', cap', rfl, hg1, hg2⟩ := World.ownsRow.form h2 (by omega)
   have hO : Owns w' w.heap.size e sz enc (some ⟨g', 0, none⟩) cap' (xs ++ [y]) := by unfold Owns; rw [List.length_append]; exact h2
   have hth : w'.there g' 0 (cap' * sz) := by
     rcases h2.2 with ⟨hv, h0⟩ | ⟨g, cap, cur, hv, hb, hh, k1, k2, k3, k4⟩
     · cases hv
     · injection hv with e1 _ e3
       injection e1 with e1
       injection e1 with e1 _ _
       subst e1 e3
       intro j hj
       have hj' : j < cur.size := by omega
       refine ⟨?_, ?_⟩
       · simp [World.cell?, hh, hj']
       · simp [World.frozen?, hh]
   have hlen : (xs ++ [y]).length ≤ cap' := hO.len.1
   have hrow := hO.row henc
   obtain ⟨g2, off2, e2, h3, h4⟩ := hrow (by simp)
   injection e2 with e2
   injection e2 with e2 e3 _
   subst e2 e3
   refine .mk _ _ hrun (h (some ⟨g', 0, none⟩) cap' (fun b => if b = g' then r else K b) w' (.inr ⟨g', 0, rfl, h3, if_pos rfl, hlen, hth, h4⟩) ((Ro.grown hg (fun b hb => by cases hb)).role fun b hb => if_neg (by omega)) (fun b hb => ?_) (.inr ⟨fun q hq => by (have e : g' = q := by injection hq); omega, hg⟩))
   rw [if_neg (by omega)]
   exact kz b (by have := hg.size; omega)
 rcases hown with ⟨rfl, rfl, rfl⟩ | ⟨g, off, rfl, h1, h2, h3, h4, h5⟩
 · obtain ⟨v', w', hrun, k2, k3, k4, k5⟩ := run_append_own_at (P := P) w w.heap.size t ty0 e i z sz bytes ht hi hz hsize hby hzs hsz (.slice none 0 0) 0 [] (World.ownsRow_nil w _ e sz) ⟨gB, 0, none⟩ 1 cB (enc y)
     (by rw [henc, Nat.one_mul]) hnews (hone y) h63 hbytes (Nat.le_refl _)
   exact fresh v' w' (by simpa [hfm] using k2) (by simpa [Value.ownBlock] using k3) hrun
 · by_cases hroom : xs.length + 1 ≤ c
   · have hm : (xs.length + 1) * sz ≤ c * sz := Nat.mul_le_mul_right sz hroom
     rw [Nat.add_mul, Nat.one_mul] at hm
     have hcell : ∀ j, j < (enc y).length → (w.cell? ⟨g, off + xs.length * i.size + j, none⟩).isSome = true ∧ w.frozen? ⟨g, off + xs.length * i.size + j, none⟩ = false := fun j hj => by
       rw [henc] at hj
       have := h4 (xs.length * sz + j) (by omega)
       rwa [← Nat.add_assoc, ← hsize] at this
     have hrun := run_append_room_cells (P := P) (w := w) t ty0 e i ht hi g off xs.length c ⟨gB, 0, none⟩ 1 cB (enc y) (by rw [henc, hsize, Nat.one_mul]) hnews (hone y) hroom (fun j hj => (hcell j hj).1) (fun j hj => (hcell j hj).2)
     rw [hsize] at hrun
     have hg : w.grownBy (w.setCells g (off + xs.length * sz) (enc y)) (some g) := grown_sets _ _ _ _
     refine .mk _ _ hrun (h _ c K _ (.inr ⟨g, off, rfl, Nat.lt_of_lt_of_le h1 hg.size, h2, by simp; exact hroom, fun j hj => ?_, fun k x hx j u hu => ?_⟩) (.grown hg fun b hb => by injection hb with hb; rw [← hb]; exact h2) (fun b hb => kz b (by have := hg.size; omega)) (.inl ⟨rfl, rfl, (fun e => by cases e), hg⟩))
     · exact World.there_setCells h4 _ _ _ j hj
     · by_cases hk : k < xs.length
       · rw [List.getElem?_append_left hk] at hx
         have hkm : (k + 1) * sz ≤ xs.length * sz := Nat.mul_le_mul_right sz hk
         rw [Nat.add_mul, Nat.one_mul] at hkm
         have hj : j < sz := by rw [← henc x]; exact (List.getElem?_eq_some_iff.1 hu).1
         exact cell_out (h5 k x hx j u hu) (.inl (by omega))
       · rw [List.getElem?_append_right (by omega)] at hx
         obtain ⟨e0, e1⟩ : k - xs.length = 0 ∧ y = x := by
           cases hq : k - xs.length with
           | zero => rw [hq] at hx; exact ⟨rfl, by simpa using hx⟩
           | succ m => rw [hq] at hx; simp at hx
         subst e1
         obtain rfl : k = xs.length := by omega
         have hj : j < (enc y).length := (List.getElem?_eq_some_iff.1 hu).1
         rw [World.cell?_setCells_in g (enc y) (off + xs.length * sz) w (fun q hq => by have := (hcell q hq).1; rwa [hsize] at this) j hj, ← hu, List.getElem?_eq_getElem hj]
   · have holds : ∀ j u, (xs.flatMap enc)[j]? = some u → w.cell? ((⟨g, off, none⟩ : Addr).add j) = some u := fun j u hu => by
       obtain ⟨k, q, x, hk, hq, rfl⟩ := flatMap_of henc xs j u hu
       rw [Addr.add_mid, ← Nat.add_assoc]
       exact h5 k x hk q u hq
     obtain ⟨v', w', hrun, k2, k3⟩ := run_append_arg_grows (P := P) (w := w) t ty0 e i z sz bytes ht hi hz hsize hby hzs hsz ⟨g, off, none⟩ xs.length c (xs.flatMap enc) (length_flat henc xs) holds ⟨gB, 0, none⟩ 1 cB (enc y) (by rw [henc, Nat.one_mul]) hnews (by omega) h63 hbytes
     exact fresh v' w' (by rw [List.flatMap_append, hfm]; exact k2) k3 hrun
theorem VApp.off {P : Program} {α : Type} {ty0 : TypeId} {t e : TypeId} {KK : Value → World → Prop} {w : World} {K : Nat → Nat} {r : Nat}
   (sz bytes : Nat) (z : Value) (ht : P.underlying t = some (.slice e)) (hinfo : (P.info? e).map (fun i => (i.zero, i.size, i.bytes)) = some (some z, sz, bytes))
   (hzs : z.cells.size = sz) (hsz : 0 < sz) (enc : α → List Value) (henc : ∀ x, (enc x).length = sz) (hone : ∀ x, ∀ u ∈ enc x, u.oneCell' = true)
   {A : Option Addr} {c : Nat} (xs : List α) {gB cB n : Nat} (y : α)
   (hn : xs.length = n) (hown : OwnO w K r sz enc A c xs) (hr : ∀ j u, (enc y)[j]? = some u → w.cell? ⟨gB, j, none⟩ = some u) (kz : ∀ b, w.heap.size ≤ b → K b = 0)
   (h63 : n + 1 ≤ 9223372036854775807) (hbytes : (n + 1) * bytes ≤ 140737488355328)
   (h : ∀ A' c' K' w', OwnO w' K' r sz enc A' c' (xs ++ [y]) → Ro (· = r) K K' w w' → (∀ b, w'.heap.size ≤ b → K' b = 0) → KK (.slice A' (n + 1) c') w') : VApp P #[t, t] ty0 [.slice A n c, .slice (some ⟨gB, 0, none⟩) 1 cB] w KK :=
 VApp.offG sz bytes z ht hinfo hzs hsz enc henc hone xs y hn hown hr kz h63 hbytes fun A' c' K' w' o q k _ => h A' c' K' w' o q k
end Go.Proofs.YtoilipfgimcoiaaGreat
namespace Go.Proofs.YtoilipfgimcoiaaGreat
open Go Go.RowKit
open Go.Maps (Keyed)
theorem laidOut_ : laidOutB Tryz.prog = true := by kernel_rfl
theorem keyRow78 : (46 : TypeId) < Tryz.prog.types.size := of_decide_eq_true (by kernel_rfl)
theorem keyWide78 : (match Tryz.prog.underlying 46 with | some (.array _ _) | some (.struct _) => true | _ => false) = true := by rw [Tryz.underlying46]
theorem keyDeep78 : Tryz.prog.keyTypeAt 2 46 = true := by kernel_rfl
set_option maxRecDepth 100000 in
theorem lawSlot : Maps.Keyed Tryz.prog 46 := Maps.Keyed.of_law (deep_law_laid laidOut_ (m := 2) (by omega) keyRow78 keyDeep78 keyWide78)
theorem keyType78 : Tryz.prog.keyType 46 = true := by kernel_rfl
theorem cells78 : Tryz.prog.cellsOf 46 = 2 := by kernel_rfl
theorem cells3 : Tryz.prog.cellsOf 3 = 1 := by kernel_rfl
theorem typesPos : 0 < Tryz.prog.types.size := of_decide_eq_true (by kernel_rfl)
theorem key_two {P : Program} {k e : TypeId} {f0 f1 : Field} (hu : P.underlying k = some (.struct #[f0, f1])) (he : P.underlying e = some (.int .i64)) (hc : P.cellsOf k = 2) (hce : P.cellsOf e = 1) (hk : P.keyType k = true)
   (h0 : f0.type = e) (h1 : f1.type = e) (o0 : f0.offset = 0) (o1 : f1.offset = 1) (n0 : (f0.name != "_") = true) (n1 : (f1.name != "_") = true)
   (a b : Int) (ha : (Lit.int .i64 a).wf = true) (hb : (Lit.int .i64 b).wf = true) (hs : 0 < P.types.size) : ∃ l, keyOf P k (.agg #[.int .i64 a, .int .i64 b]) = some l := by
 obtain ⟨d, hd⟩ : ∃ d, P.types.size = d + 1 := ⟨P.types.size - 1, by omega⟩
 refine ⟨.string (keyBytes [.int .i64 a, .int .i64 b]), ?_⟩
 have hi : ∀ n : Int, (Lit.int .i64 n).wf = true → P.keyLits (d + 1) e [.int .i64 n] = some [.int .i64 n] := fun n hn => by
   unfold Program.keyLits; simp [he, hn]
 have hs2 : P.keyLits (d + 1 + 1) k [.int .i64 a, .int .i64 b] = some [.int .i64 a, .int .i64 b] := by
   unfold Program.keyLits
   simp [hu, hc, h0, h1, o0, o1, hce, hi a ha, hi b hb]
   exact ⟨by simpa using n0, by simpa using n1⟩
 simp [keyOf, hu, hk, Value.formed, hc, Value.cells, hd, hs2]
theorem fields78 : ∃ f0 f1 : Field, Tryz.prog.underlying 46 = some (.struct #[f0, f1]) ∧ f0.type = 3 ∧ f1.type = 3 ∧ f0.offset = 0 ∧ f1.offset = 1 ∧ (f0.name != "_") = true ∧ (f1.name != "_") = true :=
 ⟨_, _, Tryz.underlying46, rfl, rfl, rfl, rfl, by decide, by decide⟩
def kSl (x : Sl) : Value := .agg #[.int .i64 x.s, .int .i64 x.q]
theorem key_sl (x : Sl) (h1 : x.s < 4611686018427387905) (h2 : x.q < 4611686018427387905) : ∃ l, keyOf Tryz.prog 46 (kSl x) = some l := by
 obtain ⟨f0, f1, hu, h0, h1', o0, o1, n0, n1⟩ := fields78
 have wf : ∀ n : Nat, n < 4611686018427387905 → (Lit.int .i64 (n : Int)).wf = true := fun n hn => by
   have e : IntKind.i64.min = -9223372036854775808 := by decide
   simp [Lit.wf, e]; omega
 exact key_two hu Tryz.underlying3 cells78 cells3 keyType78 h0 h1' o0 o1 n0 n1 x.s x.q (wf _ h1) (wf _ h2) typesPos
structure DtX where
 d : Dt
 A : Option Addr
 c : Nat
abbrev dtA (d : Dt) (A : Option Addr) (c n : Nat) : Array Value := #[.int .i64 d.s, .int .i64 d.q, .int .i64 d.st, .slice A n c]
def vDt (x : DtX) : Value := .agg (dtA x.d x.A x.c x.d.b.length)
def BornOk (es : Array MapEntry) (clock : Nat) : Prop := (es.toList.map (·.born)).Nodup ∧ ∀ e ∈ es.toList, e.born < clock
def HMap (w : World) (b : Nat) (l : List DtX) : Prop := ∃ es clock, w.heap[b]? = some (.map es clock) ∧ es.toList.map (fun e => (e.key, e.val)) = l.map (fun x => (kSl x.d.sl, vDt x)) ∧ BornOk es clock
theorem kSl_inj {x y : Sl} (h : kSl x = kSl y) : x = y := by
 obtain ⟨a, b⟩ := x; obtain ⟨c, d⟩ := y
 simp [kSl] at h
 simp; omega
section
variable {w w' : World} {b : Nat} {l : List DtX}
theorem HMap.lt (h : HMap w b l) : b < w.heap.size := by
 obtain ⟨es, clock, hb, _⟩ := h
 exact (Array.getElem?_eq_some_iff.1 hb).1
theorem HMap.same (h : HMap w b l) (hb : w'.heap[b]? = w.heap[b]?) : HMap w' b l := by
 obtain ⟨es, clock, h1, h2, h3⟩ := h
 exact ⟨es, clock, hb.trans h1, h2, h3⟩
def Keys (l : List DtX) : Prop := ∀ x ∈ l, x.d.s < 4611686018427387905 ∧ x.d.q < 4611686018427387905
theorem HMap.ent {es : Array MapEntry} (h : es.toList.map (fun e => (e.key, e.val)) = l.map fun x => (kSl x.d.sl, vDt x)) {j : Nat} {e : MapEntry} (he : es.toList[j]? = some e) : ∃ x, l[j]? = some x ∧ e.key = kSl x.d.sl ∧ e.val = vDt x := by
 have h1 := congrArg (fun m => m[j]?) h
 simp only [List.getElem?_map, he, Option.map_some] at h1
 cases hx : l[j]? with
 | none => rw [hx] at h1; cases h1
 | some x =>
   rw [hx] at h1
   simp only [Option.map_some, Option.some.injEq, Prod.mk.injEq] at h1
   exact ⟨x, rfl, h1.1, h1.2⟩
theorem HMap.ent' {es : Array MapEntry} (h : es.toList.map (fun e => (e.key, e.val)) = l.map fun x => (kSl x.d.sl, vDt x)) {j : Nat} {x : DtX} (hx : l[j]? = some x) : ∃ e, es.toList[j]? = some e ∧ e.key = kSl x.d.sl ∧ e.val = vDt x := by
 have h1 := congrArg (fun m => m[j]?) h
 simp only [List.getElem?_map, hx, Option.map_some] at h1
 cases he : es.toList[j]? with
 | none => rw [he] at h1; cases h1
 | some e =>
   rw [he] at h1
   simp only [Option.map_some, Option.some.injEq, Prod.mk.injEq] at h1
   exact ⟨e, rfl, h1.1, h1.2⟩
theorem HMap.keyed {es : Array MapEntry} (h : es.toList.map (fun e => (e.key, e.val)) = l.map fun x => (kSl x.d.sl, vDt x)) (hk : Keys l) : ∀ e ∈ es.toList, ∃ lt, keyOf Tryz.prog 46 e.key = some lt := fun e he => by
 obtain ⟨j, hj⟩ := List.mem_iff_getElem?.1 he
 obtain ⟨x, hx, e1, -⟩ := HMap.ent h hj
 rw [e1]
 have := hk x (List.mem_of_getElem? hx)
 exact key_sl _ this.1 this.2
theorem HMap.len (h : HMap w b l) {ty : TypeId} : (Builtin.len_ #[113] ty #[.map (some b)]).run Tryz.prog w = .ok (.int .i64 l.length) w := by
 obtain ⟨es, clock, hb, he, hbn⟩ := h
 have hl : es.size = l.length := by have := congrArg List.length he; simpa using this
 rw [← hl]
 simp [Builtin.len_, run_underlying Tryz.underlying113, MapKept.run_getObj_map hb, Result.andThen, goInt]
theorem nodup_key (hn : (l.map (·.d.sl)).Nodup) {i j : Nat} {x y : DtX} (hx : l[i]? = some x) (hy : l[j]? = some y) (h : x.d.sl = y.d.sl) : i = j := by
 have hi := (List.getElem?_eq_some_iff.1 hx).1
 have hj := (List.getElem?_eq_some_iff.1 hy).1
 refine (List.getElem_inj (xs := l.map (·.d.sl)) (h₀ := by simpa using hi) (h₁ := by simpa using hj) hn).1 ?_
 rw [List.getElem_map, List.getElem_map, (List.getElem?_eq_some_iff.1 hx).2, (List.getElem?_eq_some_iff.1 hy).2]
 exact h
theorem HMap.look (h : HMap w b l) (hk : Keys l) (hn : (l.map (·.d.sl)).Nodup) {x : Sl} (h1 : x.s < 4611686018427387905) (h2 : x.q < 4611686018427387905) {z : Value} (hz : (zeroValue 44).run Tryz.prog w = .ok z w) :
   (Instr.lookup 113 (.map (some b)) (kSl x) true).run Tryz.prog w = .ok (.tuple #[(match l.find? (fun y => decide (y.d.sl = x)) with | some y => vDt y | none => z), .bool (l.find? (fun y => decide (y.d.sl = x))).isSome]) w := by
 obtain ⟨es, clock, hb, he, hbn⟩ := h
 obtain ⟨lt, hlt⟩ := key_sl x h1 h2
 rcases lawSlot.find w hlt es.toList (HMap.keyed he hk) with ⟨r1, r2⟩ | ⟨j, e0, r1, r2, r3⟩
 · have hf : l.find? (fun y => decide (y.d.sl = x)) = none := List.find?_eq_none.2 fun y hy => by
     obtain ⟨j, hj⟩ := List.mem_iff_getElem?.1 hy
     obtain ⟨e, h3, h4, -⟩ := HMap.ent' he hj
     have := r2 e (List.mem_of_getElem? h3)
     rw [h4] at this
     simp only [decide_eq_true_eq]
     exact fun e2 => this (by rw [e2])
   rw [hf]
   simp [Instr.lookup, run_underlying Tryz.underlying113, MapKept.run_getObj_map hb, lawSlot.check w _ hlt, r1, hz, Result.andThen]
 · obtain ⟨y, hy, h4, h5⟩ := HMap.ent he r2
   have hyx : y.d.sl = x := kSl_inj (h4.symm.trans r3)
   cases hf : l.find? (fun y => decide (y.d.sl = x)) with
   | none => have := List.find?_eq_none.1 hf y (List.mem_of_getElem? hy); simp [hyx] at this
   | some y' =>
     have hm := List.mem_of_find?_eq_some hf
     have hp : y'.d.sl = x := by have := List.find?_some hf; simpa using this
     obtain ⟨j', hj'⟩ := List.mem_iff_getElem?.1 hm
     have e : y = y' := by
       have := nodup_key hn hy hj' (hyx.trans hp.symm)
       subst this
       rw [hy] at hj'
       injection hj'
     rw [← e]
     simp [Instr.lookup, run_underlying Tryz.underlying113, MapKept.run_getObj_map hb, lawSlot.check w _ hlt, r1, h5, Result.andThen]
theorem setB (o : Obj) (hlt : b < w.heap.size) : w.grownBy (ChangeMaps.setBlock w b o) (some b) ∧ (ChangeMaps.setBlock w b o).heap[b]? = some o :=
 ⟨⟨rfl, rfl, rfl, by simp [ChangeMaps.setBlock], fun i hi hne => by simp only [ChangeMaps.setBlock]; rw [Array.getElem?_setIfInBounds_ne (by rintro rfl; exact hne rfl)]⟩, by simp [ChangeMaps.setBlock, hlt]⟩
theorem HMap.put (h : HMap w b l) (hk : Keys l) {x : DtX} (h1 : x.d.s < 4611686018427387905) (h2 : x.d.q < 4611686018427387905) (hnew : ∀ y ∈ l, y.d.sl ≠ x.d.sl) :
   ∃ w', (Instr.mapUpdate 113 (.map (some b)) (kSl x.d.sl) (vDt x)).run Tryz.prog w = .ok () w' ∧ HMap w' b (l ++ [x]) ∧ w.grownBy w' (some b) := by
 have hlt := h.lt
 obtain ⟨es, clock, hb, he, hbn⟩ := h
 obtain ⟨lt, hl⟩ := key_sl x.d.sl h1 h2
 rcases lawSlot.find w hl es.toList (HMap.keyed he hk) with ⟨r1, r2⟩ | ⟨j, e0, r1, r2, r3⟩
 · obtain ⟨g1, g2⟩ := setB (w := w) (.map (es.push ⟨kSl x.d.sl, vDt x, clock⟩) (clock + 1)) hlt
   refine ⟨_, ?_, ⟨_, _, g2, ?_, ?_⟩, g1⟩
   · simp [Instr.mapUpdate, run_underlying Tryz.underlying113, MapKept.run_getObj_map hb, lawSlot.check w false hl, r1, MapKept.run_setObj_map _ hb, Result.andThen, ChangeMaps.setBlock]
   · rw [Array.toList_push, List.map_append, he, List.map_append]; rfl
   · refine ⟨?_, fun e hm => ?_⟩
     · rw [Array.toList_push, List.map_append, List.map_singleton, List.nodup_append]
       refine ⟨hbn.1, by simp, fun a ha c hc => ?_⟩
       obtain ⟨e, hm, rfl⟩ := List.mem_map.1 ha
       rw [List.mem_singleton.1 hc]
       have := hbn.2 e hm
       show e.born ≠ clock
       omega
     · rw [Array.toList_push] at hm
       rcases List.mem_append.1 hm with hm | hm
       · have := hbn.2 e hm; omega
       · rw [List.mem_singleton.1 hm]; show clock < clock + 1; omega
 · obtain ⟨y, hy, h4, -⟩ := HMap.ent he r2
   exact absurd (kSl_inj (h4.symm.trans r3)) (hnew y (List.mem_of_getElem? hy))
theorem filter_erase {α : Type} {p : α → Bool} : ∀ {l : List α} {j : Nat} {x : α}, l[j]? = some x → p x = false → (∀ (i : Nat) (y : α), l[i]? = some y → p y = false → i = j) → l.eraseIdx j = l.filter p
 | [], j, x, h, _, _ => by simp at h
 | a :: l, 0, x, h, hp, hu => by
   injection h with h
   subst h
   rw [List.eraseIdx_cons_zero, List.filter_cons, hp]
   refine (List.filter_eq_self.2 fun y hy => ?_).symm
   obtain ⟨i, hi⟩ := List.mem_iff_getElem?.1 hy
   cases hpy : p y with
   | true => rfl
   | false => have := hu (i + 1) y (by rw [List.getElem?_cons_succ]; exact hi) hpy; omega
 | a :: l, j + 1, x, h, hp, hu => by
   rw [List.eraseIdx_cons_succ, List.filter_cons]
   have ha : p a = true := by
     cases hpa : p a with
     | true => rfl
     | false => have := hu 0 a rfl hpa; omega
   rw [if_pos ha, filter_erase (by rw [List.getElem?_cons_succ] at h; exact h) hp fun i y hi hy => by have := hu (i + 1) y (by rw [List.getElem?_cons_succ]; exact hi) hy; omega]
theorem erase_map {α β : Type} (f : α → β) : ∀ (l : List α) (j : Nat), (l.map f).eraseIdx j = (l.eraseIdx j).map f
 | [], j => by simp
 | a :: l, 0 => rfl
 | a :: l, j + 1 => by rw [List.map_cons, List.eraseIdx_cons_succ, List.eraseIdx_cons_succ, List.map_cons, erase_map f l j]
set_option maxRecDepth 100000 in
theorem HMap.del (h : HMap w b l) (hk : Keys l) (hn : (l.map (·.d.sl)).Nodup) {x : Sl} (h1 : x.s < 4611686018427387905) (h2 : x.q < 4611686018427387905) {ty : TypeId} :
   ∃ w', (Builtin.delete_ #[113, 46] ty #[.map (some b), kSl x]).run Tryz.prog w = .ok (.tuple #[]) w' ∧ HMap w' b (l.filter fun y => decide (y.d.sl ≠ x)) ∧ w.grownBy w' (some b) := by
 have hlt := h.lt
 obtain ⟨es, clock, hb, he, hbn⟩ := h
 obtain ⟨lt, hl⟩ := key_sl x h1 h2
 rcases lawSlot.find w hl es.toList (HMap.keyed he hk) with ⟨r1, r2⟩ | ⟨j, e0, r1, r2, r3⟩
 · obtain ⟨g1, g2⟩ := setB (w := w) (.map es clock) hlt
   refine ⟨_, ?_, ⟨_, _, g2, ?_, hbn⟩, g1⟩
   · simp [Builtin.delete_, run_underlying Tryz.underlying113, MapKept.run_getObj_map hb, lawSlot.check w _ hl, r1, MapKept.run_setObj_map _ hb, Result.andThen, ChangeMaps.setBlock]
   · rw [he]
     congr 1
     refine (List.filter_eq_self.2 fun y hy => ?_).symm
     obtain ⟨j, hj⟩ := List.mem_iff_getElem?.1 hy
     obtain ⟨e, h3, h4, -⟩ := HMap.ent' he hj
     have := r2 e (List.mem_of_getElem? h3)
     rw [h4] at this
     exact decide_eq_true fun e2 => this (by rw [e2])
 · obtain ⟨y, hy, h4, h5⟩ := HMap.ent he r2
   have hyx : y.d.sl = x := kSl_inj (h4.symm.trans r3)
   obtain ⟨g1, g2⟩ := setB (w := w) (.map (es.eraseIdxIfInBounds j) clock) hlt
   have e1 : (es.eraseIdxIfInBounds j).toList = es.toList.eraseIdx j := by
     unfold Array.eraseIdxIfInBounds
     split
     · simp
     · rw [List.eraseIdx_of_length_le (by simp; omega)]
   refine ⟨_, ?_, ⟨_, _, g2, ?_, ?_⟩, g1⟩
   rotate_right
   · refine ⟨?_, fun e hm => ?_⟩
     · rw [e1]
       exact List.Nodup.sublist (List.Sublist.map _ (List.eraseIdx_sublist _ _)) hbn.1
     · rw [e1] at hm
       exact hbn.2 e (List.mem_of_mem_eraseIdx hm)
   · simp [Builtin.delete_, run_underlying Tryz.underlying113, MapKept.run_getObj_map hb, lawSlot.check w _ hl, r1, MapKept.run_setObj_map _ hb, Result.andThen, ChangeMaps.setBlock]
   · rw [e1, ← erase_map, he, erase_map]
     congr 1
     refine filter_erase hy (decide_eq_false fun e => e hyx) fun i z hi hz => ?_
     have hzx : z.d.sl = x := Classical.byContradiction fun e => by rw [decide_eq_true e] at hz; cases hz
     exact nodup_key hn hi hy (hzx.trans hyx.symm)
end
end Go.Proofs.YtoilipfgimcoiaaGreat
