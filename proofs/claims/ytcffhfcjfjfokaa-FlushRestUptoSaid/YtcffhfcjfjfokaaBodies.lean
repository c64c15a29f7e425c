/- The bodies that came out, written over one by one, a longer one beside each. No program in sight. -/
import Derived.Test.YtcffhfcjfjfokaaRest
import Derived.Test.YtcffhfcjfjfokaaKeepApp
namespace Go.Proofs.Ytcffhfcjfjfokaa
open Go.RowKit
theorem flat_bytes : ∀ l : List Int, l.flatMap eByte = l.map fun n => .int .u8 n
  | [] => rfl
  | x :: l => by rw [List.flatMap_cons, flat_bytes l]; rfl
theorem Owns.set1 {w : World} {base g c k : Nat} {l : List Int} (h : Owns w base 5 1 eByte (some ⟨g, 0, none⟩) c l) (v : Int) :
    Owns (w.setCell ⟨g, k, none⟩ (.int .u8 v)) base 5 1 eByte (some ⟨g, 0, none⟩) c (l.set k v) := by
  have h1 := (World.ownsRow.stored h k (.int .u8 v)).1
  rw [flat_bytes] at h1
  unfold Owns
  rw [List.length_set, flat_bytes, List.map_set]
  exact h1
theorem grown_set (w : World) (g k : Nat) (v : Value) : w.grownBy (w.setCell ⟨g, k, none⟩ v) (some g) :=
  ⟨rfl, rfl, rfl, by rw [World.size_setCell]; exact Nat.le_refl _, fun i _ hne => Below.heap_setCell _ _ _ _ (fun e => hne (by rw [e]))⟩
def by8 (k : Int) : Int := k % 256
theorem upto_set {l : List Int} {j : Nat} {v : Int} (h : upto (fun x => x = v) l j) : upto (fun x => x = v) (l.set j v) (j + 1) := fun k x hk hx => by
  by_cases e : k = j
  · subst e
    obtain ⟨hl, e2⟩ := List.getElem?_eq_some_iff.1 hx
    rw [List.getElem_set_self] at e2
    exact e2.symm
  · rw [List.getElem?_set_ne (fun e2 => e e2.symm)] at hx
    exact h k x (by omega) hx
theorem upto_rep {l : List Int} {n : Nat} {v : Int} (h : upto (fun x => x = v) l n) (hl : l.length = n) : l = List.replicate n v :=
  List.eq_replicate_iff.2 ⟨hl, upto_all h (by omega)⟩
theorem restTo_body {F : Int → Option (Int × Int)} {ds : List Dt} {done : Int} : ∀ {k : Nat} {l : List Dt}, RestTo F ds done k l → ∀ m ∈ l, ∃ d ∈ ds, m.body = d.body
  | 0, _, .nil => fun m hm => by cases hm
  | k + 1, _, .snoc h hs hd => fun m hm => by
    rcases List.mem_append.1 hm with hm | hm
    · exact restTo_body h m hm
    · obtain rfl := List.mem_singleton.1 hm
      obtain ⟨i, a1, _⟩ := hd
      exact ⟨_, List.mem_of_getElem? a1, rfl⟩
theorem restTo_len {F : Int → Option (Int × Int)} {ds : List Dt} {done : Int} : ∀ {k : Nat} {l : List Dt}, RestTo F ds done k l → l.length = k
  | 0, _, .nil => rfl
  | k + 1, _, .snoc h hs hd => by rw [List.length_append, restTo_len h]; rfl
theorem restIs_len {done : Int} {fs : List Fl} {ds ms : List Dt} {n : Int} (h : RestIs done fs ds ms n) : ms.length ≤ 4096 := by
  unfold RestIs at h
  split at h
  · rcases h with ⟨_, _, _, _, rfl⟩ | ⟨_, _, _, _, rfl⟩ | ⟨_, hf, hge, cut, F, hc, _, ⟨_, hr⟩ | ⟨_, rfl, _⟩⟩
    · simp
    · simp
    · rw [restTo_len hr]
      have := cut_bound hf (n := (cut - baseOf fs).toNat) (fun p h1 h2 => hc.all p h1 (by have := hc.low; omega))
      omega
    · simp
  · rw [h.2]; simp
theorem restIs_body {done : Int} {fs : List Fl} {ds ms : List Dt} {n : Int} (h : RestIs done fs ds ms n) : ∀ m ∈ ms, ∃ d ∈ ds, m.body = d.body := fun m hm => by
  unfold RestIs at h
  split at h
  · rcases h with ⟨_, _, _, _, rfl⟩ | ⟨_, _, _, _, rfl⟩ | ⟨_, _, _, cut, F, _, _, ⟨_, hr⟩ | ⟨_, rfl, _⟩⟩
    · cases hm
    · cases hm
    · exact restTo_body hr m hm
    · cases hm
  · rw [h.2] at hm; cases hm
/-- A slice in a list of slices. -/
structure Sl where
  A : Option Addr
  n : Nat
  c : Nat
def eSl (x : Sl) : List Value := [.slice x.A x.n x.c]
theorem len_eSl (x : Sl) : (eSl x).length = 1 := rfl
theorem one_eSl (x : Sl) : ∀ u ∈ eSl x, u.oneCell' = true := by intro u hu; simp [eSl] at hu; subst hu; rfl
theorem info52 : (Try.prog.info? 52).map (fun i => (i.zero, i.size, i.bytes)) = some (some (.slice none 0 0), 1, 24) := by kernel_rfl
/-- A row of bytes in a block that lies with B's, or behind all that were there. -/
def Beside (W0 : Nat) (A B : Option Addr) : Prop := blk A = blk B ∨ ∃ g, blk A = some g ∧ W0 ≤ g
/-- The first i bodies are written over, with a longer one beside each; the others are as they came. -/
structure RI (w : World) (b0 W0 : Nat) (rs : List Dr) (i : Nat) (ms : List Sl) : Prop where
  len : ms.length = i
  done : ∀ (k : Nat) (r : Dr), k < i → rs[k]? = some r → ∃ A' c', ms[k]? = some ⟨A', r.d.body.length + 1, c'⟩ ∧ Owns w b0 5 1 eByte r.B r.c (List.replicate r.d.body.length (by8 k)) ∧
    Owns w b0 5 1 eByte A' c' (List.replicate r.d.body.length (by8 k) ++ [by8 (100 + k)]) ∧ Beside W0 A' r.B
  todo : ∀ (k : Nat) (r : Dr), i ≤ k → rs[k]? = some r → Owns w b0 5 1 eByte r.B r.c r.d.body
/-- Two of the bodies lie apart. -/
theorem sep_ne {rs : List Dr} (h : rs.Pairwise fun a b => blk a.B = none ∨ blk a.B ≠ blk b.B) {k i : Nat} {a b : Dr} (ha : rs[k]? = some a) (hb : rs[i]? = some b) (hne : k ≠ i) : blk a.B = none ∨ blk a.B ≠ blk b.B := by
  obtain ⟨hk, ea⟩ := List.getElem?_eq_some_iff.1 ha
  obtain ⟨hi, eb⟩ := List.getElem?_eq_some_iff.1 hb
  rcases Nat.lt_or_gt_of_ne hne with hlt | hgt
  · have := List.pairwise_iff_getElem.1 h k i hk hi hlt
    rw [ea, eb] at this; exact this
  · have := List.pairwise_iff_getElem.1 h i k hi hk hgt
    rw [ea, eb] at this
    rcases this with h0 | h0
    · rw [h0]
      cases blk a.B with
      | none => exact .inl rfl
      | some g => exact .inr (by simp)
    · exact .inr fun e => h0 e.symm
theorem RI.next {wa wb wc wd : World} {b0 W0 : Nat} {rs : List Dr} {i : Nat} {ms : List Sl} {r : Dr} {A' : Option Addr} {c' cO : Nat} {O : Option Addr} {o o' : Obj}
    (h : RI wa b0 W0 rs i ms) (hsep : rs.Pairwise fun a b => blk a.B = none ∨ blk a.B ≠ blk b.B) (hr : rs[i]? = some r) (hlow : ∀ a ∈ rs, ∀ k, blk a.B = some k → k < W0) (hW : W0 ≤ wa.heap.size)
    (hg1 : wa.grownBy wb (blk r.B)) (hg2 : (wb.alloc o).grownBy wc (blk r.B)) (hold : Owns wc b0 5 1 eByte r.B r.c (List.replicate r.d.body.length (by8 i))) (hnew : Owns wc b0 5 1 eByte A' c' (List.replicate r.d.body.length (by8 i) ++ [by8 (100 + i)]))
    (hk : blk A' = blk r.B ∨ blk A' = some (wb.alloc o).heap.size) (hO : Owns wc b0 52 1 eSl O cO ms) (hg3 : (wc.alloc o').grownBy wd (blk O)) : RI wd b0 W0 rs (i + 1) (ms ++ [⟨A', r.d.body.length + 1, c'⟩]) := by
  have hs1 := hg1.size
  have tail : ∀ {X : Option Addr} {c : Nat} {l : List Int}, Owns wc b0 5 1 eByte X c l → Owns wd b0 5 1 eByte X c l := fun hX => (hX.alloc o').kept hg3 ((hX.alloc o').ne (hO.alloc o') (by decide))
  have go : ∀ {X : Option Addr} {c : Nat} {l : List Int}, Owns wa b0 5 1 eByte X c l → (blk X = none ∨ blk X ≠ blk r.B) → Owns wd b0 5 1 eByte X c l := fun hX hne =>
    tail (((hX.kept hg1 hne).alloc o).kept hg2 hne)
  have far : ∀ {X : Option Addr} {a : Dr} {k : Nat}, rs[k]? = some a → k ≠ i → Beside W0 X a.B → (blk X = none ∨ blk X ≠ blk r.B) := fun {X a k} ha hne hb => by
    rcases hb with hb | ⟨g, hg, hg0⟩
    · rw [hb]; exact sep_ne hsep ha hr hne
    · refine .inr fun e => ?_
      rw [hg] at e
      have := hlow r (List.mem_of_getElem? hr) g e.symm
      omega
  refine ⟨by rw [List.length_append, h.len]; rfl, fun k a hki ha => ?_, fun k a hki ha => ?_⟩
  · by_cases e : k = i
    · subst e
      rw [hr] at ha; cases ha
      refine ⟨A', c', by rw [List.getElem?_append_right (by rw [h.len]; exact Nat.le_refl _), h.len, Nat.sub_self]; rfl, tail hold, tail hnew, ?_⟩
      rcases hk with hk | hk
      · exact .inl hk
      · refine .inr ⟨_, hk, ?_⟩
        simp only [World.size_alloc]
        omega
    · obtain ⟨A2, c2, h1, h2, h3, h4⟩ := h.done k a (by omega) ha
      exact ⟨A2, c2, by rw [List.getElem?_append_left (by rw [h.len]; omega)]; exact h1, go h2 (sep_ne hsep ha hr e), go h3 (far ha e h4), h4⟩
  · exact go (h.todo k a (by omega) ha) (sep_ne hsep ha hr (by omega))
end Go.Proofs.Ytcffhfcjfjfokaa
