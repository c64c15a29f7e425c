/- Lackf Sorted Lackr RestSpec, joined. -/
import Derived.StillTailTactics
import Derived.Test.YtcffhfcjfjfokaaSh3
import Derived.Test.YtcffhfcjfjfokaaSh5
import Derived.Test.YtcffhfcjfjfokaaSh6
import Derived.Test.YtcffhfcjfjfokaaSh17
set_option linter.unusedVariables false
set_option linter.unusedSimpArgs false
namespace Go.Proofs.Ytcffhfcjfjfokaa
open Go.RowKit
/-- What Lacks answers: the slots and 0, or none and the error. -/
def LacksIs (done : Int) (own : Fl) (fs : List Fl) (l : List (Int × Int)) (n : Int) : Prop :=
  if 0 ≤ done ∧ done ≤ 4611686018427387904 then
    (∃ m, m ≠ 0 ∧ ListedMore fs [own] m ∧ n = m ∧ l = []) ∨
    (ListedMore fs [own] 0 ∧ Fit (fs ++ [own]) ∧ done < baseOf (fs ++ [own]) ∧ n = 82 ∧ l = []) ∨
    (ListedMore fs [own] 0 ∧ Fit (fs ++ [own]) ∧ baseOf (fs ++ [own]) ≤ done ∧ n = 0 ∧ ∃ cut F, IsCut (fs ++ [own]) cut ∧ (∀ pos s, F pos = some s ↔ Known (fs ++ [own]) pos s) ∧ l = pickTo F (fun s => !havB own.have_ s.1 s.2) done (cut - done).toNat)
  else n = 1 ∧ l = []
set_option maxRecDepth 100000 in
set_option maxHeartbeats 2000000 in
theorem lacks_any (done : Int) (own : Fl) (X Y A : Option Addr) (cX cY cA N : Nat) (fs : List Fl) (w : World) (hN : N ≤ w.heap.size) (hr : FlRows w N own X cX Y cY) (hA : Fls w N A fs) (hl : fs.length ≤ 9223372036854775807) :
    Calls Try.prog 24 #[.int .i64 done, .agg (flc own.e own.l own.i own.c own.base X own.slots.length cX Y own.have_.length cY), .slice A fs.length cA] w fun x w' =>
      (∃ B c l n, x = .returned (.tuple #[.slice B l.length c, .int .i64 n]) ∧ LacksIs done own fs l n ∧ Owns w' w.heap.size 66 2 eSlot B c l) ∧ Below w.heap.size w w' := by
  by_cases h1 : done < 0
  · have HL : Hid (LacksIs done own fs [] 1) := by show (if _ then _ else _); rw [if_neg (by omega)]; exact ⟨rfl, rfl⟩
    go_enter Try.func24, Try.ntmps24
    go_wp2
    go_ret2
    go_light
    exact ⟨⟨none, 0, [], 1, rfl, HL.out, owns_nil _ _ _ _ _⟩, below_box1 _ _ _⟩
  · by_cases h2 : 4611686018427387904 < done
    · have HL : Hid (LacksIs done own fs [] 1) := by show (if _ then _ else _); rw [if_neg (by omega)]; exact ⟨rfl, rfl⟩
      go_enter Try.func24, Try.ntmps24
      go_wp2
      go_ret2
      go_light
      exact ⟨⟨none, 0, [], 1, rfl, HL.out, owns_nil _ _ _ _ _⟩, below_box1 _ _ _⟩
    · have HB : ∃ W2, W2 = (box1 w (flc own.e own.l own.i own.c own.base X own.slots.length cX Y own.have_.length cY) 39).alloc (.cells (flc own.e own.l own.i own.c own.base X own.slots.length cX Y own.have_.length cY) 39) := ⟨_, rfl⟩
      obtain ⟨W2, HW2⟩ := HB
      have hbB : Below (w.heap.size + 1) (box1 w (flc own.e own.l own.i own.c own.base X own.slots.length cX Y own.have_.length cY) 39) W2 := by rw [HW2]; exact (Below.refl _ _).alloc (by simp) _
      obtain ⟨hbW, hcW, -, -⟩ := box1_facts hbB
      have hsW : W2.heap.size = w.heap.size + 2 := by rw [HW2]; simp
      have hrW : RowAt W2 (w.heap.size + 2) 7 eRw (some ⟨w.heap.size + 1, 0, none⟩) [⟨own, X, cX, Y, cY⟩] := by
        have := row_new (box1 w (flc own.e own.l own.i own.c own.base X own.slots.length cX Y own.have_.length cY) 39) 39 7 eRw ⟨own, X, cX, Y, cY⟩ (flc own.e own.l own.i own.c own.base X own.slots.length cX Y own.have_.length cY) rfl
        rw [← HW2] at this
        simpa using this
      have hB2 : Fls W2 (w.heap.size + 2) (some ⟨w.heap.size + 1, 0, none⟩) [own] := rows_fls ⟨hrW, fun r hr' => by
        obtain rfl := List.mem_singleton.1 hr'
        exact (hr.below hbW hN).more (by omega)⟩
      have hA2 : Fls W2 (w.heap.size + 2) A fs := (hA.below hbW hN).more (by omega)
      clear hrW
      replace HW2 := Lib.hid HW2
      have HW := Lib.hid (list_any A (some ⟨w.heap.size + 1, 0, none⟩) cA 1 (w.heap.size + 2) fs [own] W2 (by omega) hA2 hB2 hl (by simp))
      replace hbB := Lib.hid hbB
      clear hA2 hB2 hcW
      go_enter Try.func24, Try.ntmps24
      go_wp2_with (go_at_call 52; change Calls Try.prog 52 _ ((box1 w (flc own.e own.l own.i own.c own.base X own.slots.length cX Y own.have_.length cY) 39).alloc (.cells (flc own.e own.l own.i own.c own.base X own.slots.length cX Y own.have_.length cY) 39)) _; rw [← HW2.out]; refine HW.out.mono ?_; intro e w' hp; obtain ⟨hbw, hp⟩ := list_cases hp; rcases hp with ⟨n, rfl, hn0, hL⟩ | ⟨bs, bu, cut, F, m, rfl, hL, hfit, hcut, hbs, hbu, hub, hM, hF⟩; all_goals try have hcc := blk_cells hub)
      · go_ret2
        go_light
        exact ⟨⟨none, 0, [], n, rfl, by unfold LacksIs; rw [if_pos (by omega)]; exact .inl ⟨n, hn0, hL, rfl, rfl⟩, owns_nil _ _ _ _ _⟩, hbW.trans (hbw.mono (by omega))⟩
      · have hlt : done < baseOf (fs ++ [own]) := by simp_all
        go_ret2
        go_light
        exact ⟨⟨none, 0, [], 82, rfl, by unfold LacksIs; rw [if_pos (by omega)]; exact .inr (.inl ⟨hL, hfit, hlt, rfl, rfl⟩), owns_nil _ _ _ _ _⟩, hbW.trans (hbw.mono (by omega))⟩
      · have hge : baseOf (fs ++ [own]) ≤ done := by simp_all
        have hcb := cut_bound hfit (n := (cut - baseOf (fs ++ [own])).toNat) (fun p h1 h2 => hcut.all p h1 (by have := hcut.low; omega))
        have hlow := hcut.low
        have hmem : own ∈ fs ++ [own] := by simp
        refine (pick_60 (.pointer (some ⟨w.heap.size, 0, none⟩)) bs bu m (baseOf (fs ++ [own])) cut done F (fun s => !havB own.have_ s.1 s.2) w' hub hM (by omega) (by omega) (by omega) (by omega) (fun pos h1 h2 => ?_) (fun s W hbW' hpos => ?_)).mono ?_
        · obtain ⟨s, hs, -⟩ := (whole_iff hfit).1 (hcut.all pos (by omega) h2)
          exact ⟨s, (hF pos s).2 hs⟩
        · obtain ⟨pos, -, -, hs⟩ := hpos
          obtain ⟨g, hg, k1, k2, -⟩ := known_slot hfit ((hF pos s).1 hs)
          have hol := one_len hfit hmem hg
          have hbB2 := (hbB.out.trans (hbw.mono (by omega))).trans (hbW'.mono (by have := hbw.size; omega))
          obtain ⟨hb9, hc9, -, hs9⟩ := box1_facts hbB2
          exact lacks1_any own X Y cX cY N w.heap.size s.1 s.2 W (by omega) (hr.below hb9 hN) hs9 hc9 k1 (by omega)
        · rintro e w3 ⟨⟨B, c, rfl, hown⟩, hb3⟩
          have hown2 := hown.lower (base' := w.heap.size) (by have := hbw.size; omega)
          have hLI : LacksIs done own fs (pickTo F (fun s => !havB own.have_ s.1 s.2) done (cut - done).toNat) 0 := by unfold LacksIs; rw [if_pos (by omega)]; exact .inr (.inr ⟨hL, hfit, hge, rfl, cut, F, hcut, hF, rfl⟩)
          replace hLI := Lib.hid hLI
          replace hown2 := Lib.hid hown2
          have hbz := (hbW.trans (hbw.mono (by omega))).trans (hb3.mono (by have := hbw.size; omega))
          clear hown hF hM hub hcc hfit hcut
          generalize pickTo F (fun s => !havB own.have_ s.1 s.2) done (cut - done).toNat = l at *
          go_wp2
          go_ret2
          go_light
          exact ⟨⟨B, c, l, 0, rfl, hLI.out, hown2.out⟩, hbz⟩
end Go.Proofs.Ytcffhfcjfjfokaa
namespace Go.Proofs.Ytcffhfcjfjfokaa
open Go.RowKit
/-- The document's insertion, half way: the first q of l, s among them. -/
def Half (l : List (Int × Int)) (s : Int × Int) (n q : Nat) (out : List (Int × Int)) (b : Value) : Prop := q ≤ n ∧ out = l.take q ∧ b = .bool false ∨ n < q ∧ out = l.take n ++ s :: (l.take q).drop n ∧ b = .bool true
theorem half_left {l : List (Int × Int)} {s z : Int × Int} {n q : Nat} (hq : q < n) (hz : l[q]? = some z) : Half l s n (q + 1) (l.take q ++ [z]) (.bool false) :=
  .inl ⟨hq, by rw [List.take_add_one, hz]; rfl, rfl⟩
theorem half_mid {l : List (Int × Int)} {s z : Int × Int} {n : Nat} (hz : l[n]? = some z) : Half l s n (n + 1) (l.take n ++ [s, z]) (.bool true) := by
  refine .inr ⟨by omega, ?_, rfl⟩
  have hn := (List.getElem?_eq_some_iff.1 hz).1
  rw [List.take_add_one, hz, List.drop_append_of_le_length (by simp; omega), List.drop_of_length_le (by simp; omega)]
  simp
theorem half_right {l : List (Int × Int)} {s z : Int × Int} {n q : Nat} (hq : n < q) (hz : l[q]? = some z) : Half l s n (q + 1) (l.take n ++ s :: (l.take q).drop n ++ [z]) (.bool true) := by
  refine .inr ⟨by omega, ?_, rfl⟩
  have hn := (List.getElem?_eq_some_iff.1 hz).1
  rw [List.take_add_one, hz, List.drop_append_of_le_length (by simp; omega)]
  simp
theorem half_len {l : List (Int × Int)} {s : Int × Int} {n q : Nat} {out : List (Int × Int)} {b : Value} (h : Half l s n q out b) : out.length ≤ l.length + 1 := by
  rcases h with ⟨_, rfl, _⟩ | ⟨_, rfl, _⟩ <;> simp <;> omega
set_option maxRecDepth 100000 in
set_option maxHeartbeats 4000000 in
theorem sorted_any (A : Option Addr) (cA N : Nat) (l : List (Int × Int)) (s1 s2 : Int) (w : World) (hN : N ≤ w.heap.size) (hA : RowAt w N 2 eSlot A l) (hl : l.length ≤ 4096) :
    Calls Try.prog 63 #[.slice A l.length cA, .agg #[.int .i64 s1, .int .i64 s2]] w fun x w' => (∃ B c, x = .returned (.slice B (l.length + 1) c) ∧ Owns w' w.heap.size 66 2 eSlot B c (ins l (s1, s2))) ∧ Below w.heap.size w w' := by
  obtain ⟨n, hn, h1, h2⟩ := takeWhile_len (fun t => !sltB (s1, s2) t) l
  have h1' : ∀ j x, j < n → l[j]? = some x → sltB (s1, s2) x = false := fun j x hj hx => by simpa using h1 j x hj hx
  have h2' : ∀ x, l[n]? = some x → sltB (s1, s2) x = true := fun x hx => by simpa using h2 x hx
  have hins := Lib.hid (ins_at h1' h2' hn)
  replace h1' := Lib.hid h1'
  replace h2' := Lib.hid h2'
  clear h1 h2
  go_enter Try.func63, Try.ntmps63
  go_wp2
  go_loopw [5, 6, 7] (fun a b k wr => ∃ (q : Nat) (out : List (Int × Int)) (B : Option Addr) (cB m : Nat), k = .int .i64 q ∧ a = .slice B m cB ∧ m = out.length ∧ q ≤ l.length ∧ Owns wr (w.heap.size + 1) 66 2 eSlot B cB out ∧ Half l (s1, s2) n q out b ∧ Below (w.heap.size + 1) (box1 w #[.int .i64 s1, .int .i64 s2] 66) wr) (fun _ _ k _ => l.length - (intOf k).toNat)
  case atStart => exact ⟨0, [], none, 0, 0, rfl, rfl, rfl, by omega, owns_nil _ _ _ _ _, .inl ⟨by omega, by simp, rfl⟩, Below.refl _ _⟩
  case round =>
    obtain ⟨q, out, B, cB, m, rfl, rfl, hm, hq, hown, hH, hb⟩ := hrel
    have hml : m ≤ 4097 := by have := half_len hH; omega
    replace hm := Lib.hid hm
    obtain ⟨hb0, hc, -, hsz⟩ := box1_facts hb
    have hlo := hown.lo
    have hownd : Owns wr.drew (w.heap.size + 1) 66 2 eSlot B cB out := hown
    by_cases hlt : q < l.length
    · obtain ⟨g, o, x, y, hA', hg, hx, c0, c1⟩ := (hA.below hb0 hN).slot hlt
      subst hA'
      have hgw : g < wr.heap.size := by omega
      rcases hH with ⟨hqn, hout, rfl⟩ | ⟨hqn, hout, rfl⟩
      · replace hout := Lib.hid hout
        by_cases hqe : q = n
        · subst hqe
          have t := h2'.out _ hx.out
          simp only [sltB, decide_eq_true_eq] at t
          by_cases t1 : s1 < x
          · go_wp2
            go_quiet (fail)
            go_wp2_with (at_builtin; refine wpList_append_rows _ rfl (.tmp 46) (.tmp 48) 36 rfl (w.heap.size + 1) 66 2 16 _ Try.underlying36 info66 rfl (by decide) eSlot len_eSlot one_eSlot B cB out (some ⟨wr.heap.size, 0, none⟩) 1 (wr.heap.size + 1) m 1 [(s1, s2)] rfl rfl hm.out.symm rfl ?_ ?_ ?_ ?_ ?_ ?_)
            · exact hownd.alloc _
            · exact row_new _ _ _ _ _ _ rfl
            · omega
            · omega
            · simp only [World.size_alloc, size_drewN]; omega
            · intro A1 c1' w1 ho1 hg1 hk1
              have hb1 := ((below_drewN hb _).alloc (by simp only [size_drewN]; omega) (.cells #[.int .i64 s1, .int .i64 s2] 66)).grown hg1 (by simp only [World.size_alloc, size_drewN]; omega) (fun k hk => (hlo k hk).1)
              clear hownd hown hg1 hk1 hb hb0 hc hsz hlo c0 c1
              obtain ⟨hb0, hc, -, hsz⟩ := box1_facts hb1
              have hlo := ho1.lo
              obtain ⟨g', o', x', y', hA', hg', hx', c0, c1⟩ := (hA.below hb0 hN).slot hlt
              obtain ⟨rfl, rfl⟩ : g = g' ∧ o = o' := by injection hA' with h; injection h with h1 h2; exact ⟨h1, h2⟩
              obtain ⟨rfl, rfl⟩ : x = x' ∧ y = y' := by have := hx'.out; rw [hx.out] at this; injection this with h; injection h with h1 h2; exact ⟨h1, h2⟩
              clear hA' hg'
              have hm1 : (out ++ [(s1, s2)]).length = m + 1 := by rw [List.length_append, ← hm.out]; rfl
              replace hm1 := Lib.hid hm1
              go_wp2_with (at_builtin; refine wpList_append_rows _ rfl (.tmp 50) (.tmp 55) 36 rfl (w.heap.size + 1) 66 2 16 _ Try.underlying36 info66 rfl (by decide) eSlot len_eSlot one_eSlot A1 c1' (out ++ [(s1, s2)]) (some ⟨w1.heap.size, 0, none⟩) 1 (w1.heap.size + 1) (m + 1) 1 [(x, y)] rfl rfl hm1.out rfl ?_ ?_ ?_ ?_ ?_ ?_)
              · exact ho1.alloc _
              · exact row_new _ _ _ _ _ _ rfl
              · omega
              · omega
              · simp only [World.size_alloc, size_drewN]; omega
              · intro A2 c2 w2 ho2 hg2 hk2
                have hb2 := (hb1.alloc (by omega) (.cells #[.int .i64 x, .int .i64 y] 66)).grown hg2 (by simp only [World.size_alloc]; omega) (fun k hk => (hlo k hk).1)
                clear ho1 hg2 hk2 hb1
                rw [hout.out] at ho2
                replace ho2 := Lib.hid ho2
                replace hm1 := Lib.hid hm1
                go_wp2
                go_roundw
                case rel =>
                  go_light
                  exact ⟨q + 1, _, A2, c2, m + 1 + 1, by go_num, rfl, by have h9 := hm1.out.out; simp only [List.length_append, List.length_cons, List.length_nil] at h9 ⊢; rw [← hout.out]; omega, by omega, ho2.out, half_mid hx.out, hb2⟩
                case measure => go_light; simp [intOf]; omega
          · obtain ⟨t2, t3⟩ : s1 = x ∧ s2 < y := by omega
            subst t2
            clear t
            go_wp2
            go_quiet (fail)
            go_wp2_with (at_builtin; refine wpList_append_rows _ rfl (.tmp 46) (.tmp 48) 36 rfl (w.heap.size + 1) 66 2 16 _ Try.underlying36 info66 rfl (by decide) eSlot len_eSlot one_eSlot B cB out (some ⟨wr.heap.size, 0, none⟩) 1 (wr.heap.size + 1) m 1 [(s1, s2)] rfl rfl hm.out.symm rfl ?_ ?_ ?_ ?_ ?_ ?_)
            · exact hownd.alloc _
            · exact row_new _ _ _ _ _ _ rfl
            · omega
            · omega
            · simp only [World.size_alloc, size_drewN]; omega
            · intro A1 c1' w1 ho1 hg1 hk1
              have hb1 := ((below_drewN hb _).alloc (by simp only [size_drewN]; omega) (.cells #[.int .i64 s1, .int .i64 s2] 66)).grown hg1 (by simp only [World.size_alloc, size_drewN]; omega) (fun k hk => (hlo k hk).1)
              clear hownd hown hg1 hk1 hb hb0 hc hsz hlo c0 c1
              obtain ⟨hb0, hc, -, hsz⟩ := box1_facts hb1
              have hlo := ho1.lo
              obtain ⟨g', o', x', y', hA', hg', hx', c0, c1⟩ := (hA.below hb0 hN).slot hlt
              obtain ⟨rfl, rfl⟩ : g = g' ∧ o = o' := by injection hA' with h; injection h with h1 h2; exact ⟨h1, h2⟩
              obtain ⟨rfl, rfl⟩ : s1 = x' ∧ y = y' := by have := hx'.out; rw [hx.out] at this; injection this with h; injection h with h1 h2; exact ⟨h1, h2⟩
              clear hA' hg'
              have hm1 : (out ++ [(s1, s2)]).length = m + 1 := by rw [List.length_append, ← hm.out]; rfl
              replace hm1 := Lib.hid hm1
              go_wp2_with (at_builtin; refine wpList_append_rows _ rfl (.tmp 50) (.tmp 55) 36 rfl (w.heap.size + 1) 66 2 16 _ Try.underlying36 info66 rfl (by decide) eSlot len_eSlot one_eSlot A1 c1' (out ++ [(s1, s2)]) (some ⟨w1.heap.size, 0, none⟩) 1 (w1.heap.size + 1) (m + 1) 1 [(s1, y)] rfl rfl hm1.out rfl ?_ ?_ ?_ ?_ ?_ ?_)
              · exact ho1.alloc _
              · exact row_new _ _ _ _ _ _ rfl
              · omega
              · omega
              · simp only [World.size_alloc, size_drewN]; omega
              · intro A2 c2 w2 ho2 hg2 hk2
                have hb2 := (hb1.alloc (by omega) (.cells #[.int .i64 s1, .int .i64 y] 66)).grown hg2 (by simp only [World.size_alloc]; omega) (fun k hk => (hlo k hk).1)
                clear ho1 hg2 hk2 hb1
                rw [hout.out] at ho2
                replace ho2 := Lib.hid ho2
                replace hm1 := Lib.hid hm1
                go_wp2
                go_roundw
                case rel =>
                  go_light
                  exact ⟨q + 1, _, A2, c2, m + 1 + 1, by go_num, rfl, by have h9 := hm1.out.out; simp only [List.length_append, List.length_cons, List.length_nil] at h9 ⊢; rw [← hout.out]; omega, by omega, ho2.out, half_mid hx.out, hb2⟩
                case measure => go_light; simp [intOf]; omega
        · have t := h1'.out _ _ (by omega) hx.out
          simp only [sltB, decide_eq_false_iff_not] at t
          have t1 : ¬ s1 < x := by omega
          by_cases t2 : s1 = x
          · subst t2
            have t3 : ¬ s2 < y := by omega
            clear t
            go_wp2
            go_quiet (fail)
            go_wp2_with (at_builtin; refine wpList_append_rows _ rfl (.tmp 50) (.tmp 55) 36 rfl (w.heap.size + 1) 66 2 16 _ Try.underlying36 info66 rfl (by decide) eSlot len_eSlot one_eSlot B cB out (some ⟨wr.heap.size, 0, none⟩) 1 (wr.heap.size + 1) m 1 [(s1, y)] rfl rfl hm.out.symm rfl ?_ ?_ ?_ ?_ ?_ ?_)
            · exact hownd.alloc _
            · exact row_new _ _ _ _ _ _ rfl
            · omega
            · omega
            · simp only [World.size_alloc, size_drewN]; omega
            · intro A1 c1 w1 ho1 hg1 hk1
              have hb1 := ((below_drewN hb _).alloc (by simp only [size_drewN]; omega) (.cells #[.int .i64 s1, .int .i64 y] 66)).grown hg1 (by simp only [World.size_alloc, size_drewN]; omega) (fun k hk => (hlo k hk).1)
              clear hownd hown hg1 hk1 hb
              rw [hout.out] at ho1
              replace ho1 := Lib.hid ho1
              go_wp2
              go_roundw
              case rel =>
                go_light
                exact ⟨q + 1, _, A1, c1, m + 1, by go_num, rfl, by rw [List.length_append, ← hout.out, ← hm.out]; rfl, by omega, ho1.out, half_left (by omega) hx.out, hb1⟩
              case measure => go_light; simp [intOf]; omega
          · clear t
            go_wp2
            go_quiet (fail)
            go_wp2_with (at_builtin; refine wpList_append_rows _ rfl (.tmp 50) (.tmp 55) 36 rfl (w.heap.size + 1) 66 2 16 _ Try.underlying36 info66 rfl (by decide) eSlot len_eSlot one_eSlot B cB out (some ⟨wr.heap.size, 0, none⟩) 1 (wr.heap.size + 1) m 1 [(x, y)] rfl rfl hm.out.symm rfl ?_ ?_ ?_ ?_ ?_ ?_)
            · exact hownd.alloc _
            · exact row_new _ _ _ _ _ _ rfl
            · omega
            · omega
            · simp only [World.size_alloc, size_drewN]; omega
            · intro A1 c1 w1 ho1 hg1 hk1
              have hb1 := ((below_drewN hb _).alloc (by simp only [size_drewN]; omega) (.cells #[.int .i64 x, .int .i64 y] 66)).grown hg1 (by simp only [World.size_alloc, size_drewN]; omega) (fun k hk => (hlo k hk).1)
              clear hownd hown hg1 hk1 hb
              rw [hout.out] at ho1
              replace ho1 := Lib.hid ho1
              go_wp2
              go_roundw
              case rel =>
                go_light
                exact ⟨q + 1, _, A1, c1, m + 1, by go_num, rfl, by rw [List.length_append, ← hout.out, ← hm.out]; rfl, by omega, ho1.out, half_left (by omega) hx.out, hb1⟩
              case measure => go_light; simp [intOf]; omega
      · replace hout := Lib.hid hout
        go_wp2
        go_quiet (fail)
        go_wp2_with (at_builtin; refine wpList_append_rows _ rfl (.tmp 50) (.tmp 55) 36 rfl (w.heap.size + 1) 66 2 16 _ Try.underlying36 info66 rfl (by decide) eSlot len_eSlot one_eSlot B cB out (some ⟨wr.heap.size, 0, none⟩) 1 (wr.heap.size + 1) m 1 [(x, y)] rfl rfl hm.out.symm rfl ?_ ?_ ?_ ?_ ?_ ?_)
        · exact hownd.alloc _
        · exact row_new _ _ _ _ _ _ rfl
        · omega
        · omega
        · simp only [World.size_alloc, size_drewN]; omega
        · intro A1 c1 w1 ho1 hg1 hk1
          have hb1 := ((below_drewN hb _).alloc (by simp only [size_drewN]; omega) (.cells #[.int .i64 x, .int .i64 y] 66)).grown hg1 (by simp only [World.size_alloc, size_drewN]; omega) (fun k hk => (hlo k hk).1)
          clear hownd hown hg1 hk1 hb
          rw [hout.out] at ho1
          replace ho1 := Lib.hid ho1
          go_wp2
          go_roundw
          case rel =>
            go_light
            exact ⟨q + 1, _, A1, c1, m + 1, by go_num, rfl, by rw [List.length_append, ← hout.out, ← hm.out]; rfl, by omega, ho1.out, half_right hqn hx.out, hb1⟩
          case measure => go_light; simp [intOf]; omega
    · rcases hH with ⟨hqn, hout, rfl⟩ | ⟨hqn, hout, rfl⟩
      · have hql : q = l.length := by omega
        have hnl : n = l.length := by omega
        subst hql
        replace hout := Lib.hid hout
        clear hqn
        go_wp2_with (at_builtin; refine wpList_append_rows _ rfl (.tmp 59) (.tmp 61) 36 rfl (w.heap.size + 1) 66 2 16 _ Try.underlying36 info66 rfl (by decide) eSlot len_eSlot one_eSlot B cB out (some ⟨wr.heap.size, 0, none⟩) 1 (wr.heap.size + 1) m 1 [(s1, s2)] rfl rfl hm.out.symm rfl ?_ ?_ ?_ ?_ ?_ ?_)
        · exact hown.alloc _
        · exact row_new _ _ _ _ _ _ rfl
        · omega
        · omega
        · simp only [World.size_alloc]; omega
        · intro A1 c1 w1 ho1 hg1 hk1
          have hb1 := (hb0.alloc (by omega) (.cells #[.int .i64 s1, .int .i64 s2] 66)).grown hg1 (by simp only [World.size_alloc]; omega) (fun k hk => by have := (hlo k hk).1; omega)
          go_wp2
          go_ret
          go_light
          have hm' := hm.out
          rw [hout.out, List.take_length] at hm' ho1
          rw [hm']
          refine ⟨⟨A1, c1, rfl, ?_⟩, hb1⟩
          rw [hins.out, hnl, List.take_length, List.drop_length]
          exact ho1.lower (by omega)
      · have hql : q = l.length := by omega
        subst hql
        have hm' := hm.out
        rw [List.take_length] at hout
        have ho : out = ins l (s1, s2) := by rw [hins.out, hout]
        rw [ho, ins_length] at hm'
        rw [ho] at hown
        subst hm'
        clear hout ho hm hownd
        go_wp2
        go_ret
        go_light
        exact ⟨⟨B, cB, rfl, hown.lower (by omega)⟩, hb0⟩
end Go.Proofs.Ytcffhfcjfjfokaa
namespace Go.Proofs.Ytcffhfcjfjfokaa
open Go.RowKit
open Classical in
/-- The slot of a position, where one is known. -/
noncomputable def knownF (fs : List Fl) (pos : Int) : Option (Int × Int) := if ∃ s, Known fs pos s then some (atOf fs pos) else none
theorem knownF_iff {fs : List Fl} (h : Fit fs) (pos : Int) (s : Int × Int) : knownF fs pos = some s ↔ Known fs pos s := by
  unfold knownF
  constructor
  · intro e
    split at e
    · rename_i hk
      obtain ⟨t, ht⟩ := hk
      rw [atOf_known h ht] at e; cases e; exact ht
    · cases e
  · intro hk
    rw [if_pos ⟨s, hk⟩, atOf_known h hk]
theorem flc_cells {w : World} {b : Nat} {e l i c ba : Int} {X Y : Option Addr} {n m cX cY : Nat} (h : ∀ j, w.cell? ⟨b, j, none⟩ = (flc e l i c ba X n cX Y m cY)[j]?) :
    w.cell? ⟨b, 0, none⟩ = some (.int .i64 e) ∧ w.cell? ⟨b, 1, none⟩ = some (.int .i64 l) ∧ w.cell? ⟨b, 2, none⟩ = some (.int .i64 i) ∧ w.cell? ⟨b, 3, none⟩ = some (.int .i64 c) ∧ w.cell? ⟨b, 4, none⟩ = some (.int .i64 ba) ∧
    w.cell? ⟨b, 5, none⟩ = some (.slice X n cX) ∧ w.cell? ⟨b, 6, none⟩ = some (.slice Y m cY) := ⟨h 0, h 1, h 2, h 3, h 4, h 5, h 6⟩
def LacksPost (done : Int) (own : Fl) (fs : List Fl) (w : World) (x : Ending) (w' : World) : Prop :=
  (∃ B c l n, x = .returned (.tuple #[.slice B l.length c, .int .i64 n]) ∧ LacksIs done own fs l n ∧ Owns w' w.heap.size 66 2 eSlot B c l) ∧ Below w.heap.size w w'
theorem lacks_none {done : Int} {own : Fl} {fs : List Fl} {w w' : World} {n : Int} (h : LacksIs done own fs [] n) (hb : Below w.heap.size w w') : LacksPost done own fs w (.returned (.tuple #[.slice none 0 0, .int .i64 n])) w' :=
  ⟨⟨none, 0, [], n, rfl, h, owns_nil _ _ _ _ _⟩, hb⟩
set_option maxRecDepth 100000 in
set_option maxHeartbeats 4000000 in
theorem rlacks_any (done : Int) (own : Fl) (X Y A : Option Addr) (cX cY cA N : Nat) (fs : List Fl) (w : World) (hN : N ≤ w.heap.size) (hr : FlRows w N own X cX Y cY) (hA : Fls w N A fs) (hl : fs.length ≤ 9223372036854775807) :
    Calls Try.prog 25 #[.int .i64 done, .agg (flc own.e own.l own.i own.c own.base X own.slots.length cX Y own.have_.length cY), .slice A fs.length cA] w (LacksPost done own fs w) := by
  by_cases h1 : done < 0
  · have HL : Hid (LacksIs done own fs [] 1) := by show (if _ then _ else _); rw [if_neg (by omega)]; exact ⟨rfl, rfl⟩
    go_enter Try.func25, Try.ntmps25
    go_wp2
    go_ret2
    go_light
    exact lacks_none HL.out (below_box1 _ _ _)
  · by_cases h2 : 4611686018427387904 < done
    · have HL : Hid (LacksIs done own fs [] 1) := by show (if _ then _ else _); rw [if_neg (by omega)]; exact ⟨rfl, rfl⟩
      go_enter Try.func25, Try.ntmps25
      go_wp2
      go_ret2
      go_light
      exact lacks_none HL.out (below_box1 _ _ _)
    · by_cases h3 : 1 ≤ fs.length ∧ fs.length ≤ 16
      · obtain ⟨h3a, h3b⟩ := h3
        obtain ⟨rs, hrs, hR⟩ := fls_rows hA
        have hlr : rs.length = fs.length := by rw [← hrs, List.length_map]
        replace hrs := Lib.hid hrs
        have Hlr := Lib.hid hlr
        clear hlr hA
        have h4 : ¬ fs.length < 1 := by omega
        have h5 : ¬ 16 < fs.length := by omega
        go_enter Try.func25, Try.ntmps25
        go_wp2_with (at_builtin; refine wpList_append_rows _ rfl (.tmp 30) (.tmp 31) 22 rfl (w.heap.size + 1) 39 7 88 _ Try.underlying22 info39 rfl (by decide) eRw len_eRw one_eRw none 0 [] A cA N 0 fs.length rs rfl rfl rfl ?_ ?_ ?_ ?_ ?_ ?_ ?_)
        · exact Hlr.out
        · exact owns_nil _ _ _ _ _
        · exact hR.row.below (below_box1 _ _ _) hN
        all_goals try omega
        · intro A1 c1 w1 ho1 hg1 hk1
          have hb1 := (Below.refl (w.heap.size + 1) (box1 w (flc own.e own.l own.i own.c own.base X own.slots.length cX Y own.have_.length cY) 39)).grown hg1 (by simp) (by intro k hk; simp [blk] at hk)
          have hlo1 := ho1.lo
          obtain ⟨hb10, hc1, -, hs1⟩ := box1_facts hb1
          clear hg1 hk1
          have hc10 := hc1 0
          have hc11 := hc1 1
          have hc12 := hc1 2
          have hc13 := hc1 3
          have hc14 := hc1 4
          have hc15 := hc1 5
          have hc16 := hc1 6
          simp [flc] at hc10 hc11 hc12 hc13 hc14 hc15 hc16
          clear hc1
          go_wp2_with (at_builtin; refine wpList_append_rows _ rfl (.tmp 33) (.tmp 35) 22 rfl (w.heap.size + 1) 39 7 88 _ Try.underlying22 info39 rfl (by decide) eRw len_eRw one_eRw A1 c1 rs (some ⟨w1.heap.size, 0, none⟩) 1 (w1.heap.size + 1) fs.length 1 [⟨own, X, cX, Y, cY⟩] rfl rfl ?_ ?_ ?_ ?_ ?_ ?_ ?_ ?_)
          · exact Hlr.out
          · rfl
          · exact ho1.alloc _
          · exact row_new _ _ _ _ _ _ rfl
          all_goals try omega
          all_goals try (simp only [World.size_alloc]; omega)
          · intro A2 c2 w2 ho2 hg2 hk2
            have hB2 := (hb1.alloc (by omega) (.cells #[.int .i64 own.e, .int .i64 own.l, .int .i64 own.i, .int .i64 own.c, .int .i64 own.base, .slice X own.slots.length cX, .slice Y own.have_.length cY] 39)).grown hg2 (by simp only [World.size_alloc]; omega) (fun k hk => (hlo1 k hk).1)
            obtain ⟨hb20, hc2, -, hs2⟩ := box1_facts hB2
            have hfl : Fls w2 w2.heap.size A2 (fs ++ [own]) := by
              have hx : Rws w2 w2.heap.size A2 (rs ++ [⟨own, X, cX, Y, cY⟩]) := ⟨ho2.row len_eRw, fun r hr' => by
                rcases List.mem_append.1 hr' with h | h
                · exact ((hR.each r h).below hb20 hN).more (by omega)
                · obtain rfl := List.mem_singleton.1 h
                  exact (hr.below hb20 hN).more (by omega)⟩
              have := rows_fls hx
              rw [List.map_append, hrs.out] at this; exact this
            have hLM : ∀ m, Together (fs ++ [own]) m → ListedMore fs [own] m := fun m h => by unfold ListedMore; rw [if_pos ⟨h3a, h3b⟩]; exact h
            have hlen : fs.length + 1 = (fs ++ [own]).length := by simp
            have hmem : own ∈ fs ++ [own] := by simp
            have HLI : ∀ l n, Hid (LacksIs done own fs l n ↔ LacksIs done own fs l n) := fun _ _ => (Iff.rfl : _ ↔ _)
            have hPE : ∀ n, n ≠ 0 → Together (fs ++ [own]) n → LacksIs done own fs [] n := fun n hn h => by unfold LacksIs; rw [if_pos (by omega)]; exact .inl ⟨n, hn, hLM n h, rfl, rfl⟩
            have hPF : Together (fs ++ [own]) 0 → done < baseOf (fs ++ [own]) → LacksIs done own fs [] 82 := fun h hlt => by unfold LacksIs; rw [if_pos (by omega)]; exact .inr (.inl ⟨hLM 0 h, fit_iff.1 h, hlt, rfl, rfl⟩)
            have hPO : Together (fs ++ [own]) 0 → baseOf (fs ++ [own]) ≤ done → ∀ cut, IsCut (fs ++ [own]) cut → LacksIs done own fs (pickTo (knownF (fs ++ [own])) (fun s => !havB own.have_ s.1 s.2) done (cut - done).toNat) 0 := fun h hge cut hc => by unfold LacksIs; rw [if_pos (by omega)]; exact .inr (.inr ⟨hLM 0 h, fit_iff.1 h, hge, rfl, cut, _, hc, knownF_iff (fit_iff.1 h), rfl⟩)
            clear HLI hLM
            rw [hlen]
            have hl2 : (fs ++ [own]).length ≤ 17 := by simp; omega
            clear hlen ho1 ho2 hg2 hk2 hb1 hlo1 hb10 hs1 hc10 hc11 hc12 hc13 hc14 hc15 hc16 hR hrs Hlr
            replace hPE := Lib.hid hPE
            replace hPF := Lib.hid hPF
            replace hPO := Lib.hid hPO
            generalize fs ++ [own] = fs2 at *
            go_wp2_with (go_at_call 29; refine (together_any A2 c2 w2.heap.size fs2 _ (Nat.le_refl _) hfl (by omega)).mono ?_; rintro e w3 ⟨⟨n, rfl, hn⟩, hbw⟩; replace hn := Lib.hid hn)
            · go_ret2
              go_light
              have h0 := ‹(n != 0) = true›
              exact lacks_none (hPE.out n (by simpa using h0) hn.out) (hb20.trans (hbw.mono (by omega)))
            · have h0 := ‹(n != 0) = false›
              obtain rfl : n = 0 := by simpa using h0
              have hsz3 := hbw.size
              have hfl3 := hfl.below hbw (Nat.le_refl _)
              have hb30 := hb20.trans (hbw.mono (by omega))
              have hB3 := hB2.trans (hbw.mono (by omega))
              have HFit := Lib.hid (fit_iff.1 hn.out)
              have hbp := base_nonneg fs2
              have hbq := base_le HFit.out.sound
              clear hB2 hb20 hc2 hfl hbw
              refine (base_any A2 c2 w2.heap.size fs2 w3 hfl3 (by omega)).mono ?_
              rintro e w4 ⟨rfl, rfl⟩
              by_cases hlt : done < baseOf fs2
              · go_wp2
                go_ret2
                go_light
                exact lacks_none (hPF.out hn.out hlt) hb30
              · have hge : baseOf fs2 ≤ done := by omega
                go_wp2_with (go_at_call 54; refine (end_any A2 c2 w2.heap.size fs2 w3 (by omega) hfl3 (by omega) (fun f hf => ⟨(HFit.out.sound f hf).base0, by have := (HFit.out.sound f hf).base; omega⟩) hbp (fun n h => cut_bound HFit.out h)).mono ?_; rintro e w4 ⟨⟨cut, rfl, hcut⟩, hbw4⟩; have hcb := cut_bound HFit.out (n := (cut - baseOf fs2).toNat) (fun p h1 h2 => hcut.all p h1 (by have := hcut.low; omega)); have hlow := hcut.low)
                have hKn : ∀ pos, baseOf fs2 < pos → pos ≤ cut → ∃ s : Int × Int, knownF fs2 pos = some s ∧ atOf fs2 pos = s ∧ rhasB own.have_ s.1 s.2 = havB own.have_ s.1 s.2 := fun pos h1 h2 => by
                  obtain ⟨s, hs, -⟩ := (whole_iff HFit.out).1 (hcut.all pos h1 h2)
                  exact ⟨s, (knownF_iff HFit.out pos s).2 hs, atOf_known HFit.out hs, had_rhas HFit.out hs hmem⟩
                have hPO' := hPO.out hn.out hge cut hcut
                have hbs : ∀ f ∈ fs2, 0 ≤ f.base ∧ f.base ≤ 4611686018427387904 := fun f hf => ⟨(HFit.out.sound f hf).base0, by have := (HFit.out.sound f hf).base; omega⟩
                obtain ⟨p, hp0⟩ : ∃ p : Int × Int → Bool, p = fun s => !havB own.have_ s.1 s.2 := ⟨_, rfl⟩
                obtain ⟨F, hF0⟩ : ∃ F, F = knownF fs2 := ⟨_, rfl⟩
                rw [← hp0, ← hF0] at hPO'
                rw [← hF0] at hKn
                have hpq : ∀ s, p s = !havB own.have_ s.1 s.2 := fun s => by rw [hp0]
                replace hPO' := Lib.hid hPO'
                replace hbs := Lib.hid hbs
                have hsz4 := hbw4.size
                have hfl4 := hfl3.below hbw4 (by omega)
                have hB4 := hB3.trans (hbw4.mono (by omega))
                clear hPO hPF hPE hp0 hF0 hcut hfl3 hB3 hb30 hbw4
                go_loopw [10, 12] (fun a b wr => ∃ (q : Nat) (B : Option Addr) (cB m : Nat), b = .int .i64 (done + q) ∧ a = .slice B m cB ∧ m = (pickTo F p done q).length ∧ q ≤ (cut - done).toNat ∧ Owns wr w.heap.size 66 2 eSlot B cB (pickTo F p done q) ∧ m ≤ q ∧ Below w4.heap.size w4 wr) (fun _ b _ => (cut - intOf b).toNat)
                case atStart => exact ⟨0, none, 0, 0, by simp, rfl, rfl, by omega, owns_nil _ _ _ _ _, by omega, Below.refl _ _⟩
                case round =>
                  obtain ⟨q, B, cB, m, rfl, rfl, hm, hq, hown, hmq, hb⟩ := hrel
                  replace hm := Lib.hid hm
                  have hlo := hown.lo
                  have hszr := hb.size
                  by_cases hlt : done + q < cut
                  · obtain ⟨⟨x, y⟩, hs, hat, hrh⟩ := hKn (done + q + 1) (by omega) (by omega)
                    have hpk : pickTo F p done (q + 1) = if p (x, y) = true then ins (pickTo F p done q) (x, y) else pickTo F p done q := by rw [pickTo, show done + 1 + (q : Int) = done + q + 1 by omega, hs]
                    have hflr := hfl4.below hb (by omega)
                    have hBr := hB4.trans (hb.mono (by omega))
                    cases hh : havB own.have_ x y with
                    | false =>
                      have hp : p (x, y) = true := by rw [hpq]; simp [hh]
                      rw [hp, if_pos rfl] at hpk
                      replace hpk := Lib.hid hpk
                      rw [hh] at hrh
                      replace hrh := Lib.hid hrh
                      go_wp2_with (go_at_call 31; refine (at_any A2 c2 w2.heap.size fs2 (done + q + 1) wr (by omega) hflr (by omega) (by omega) (by omega) hbs.out).mono ?_; rintro e w5 ⟨rfl, hbw5⟩; rw [hat]; have hs6 := hbw5.size; have hB5 := hBr.trans (hbw5.mono (by omega)); obtain ⟨hb50, hc5, -, hs5⟩ := box1_facts hB5; obtain ⟨k0, k1, k2, k3, k4, k5, k6⟩ := flc_cells hc5; clear hc5; have hr5 := hr.below hb50 hN; have hown5 := hown.keep hbw5 (fun k hk => (hlo k hk).2))
                      have hr6 : RowAt (w5.alloc (.cells #[.int .i64 x, .int .i64 y] 66)) N 1 eInt Y own.have_ := hr5.have_.below ((Below.refl w5.heap.size w5).alloc (Nat.le_refl _) _) (by omega)
                      have hown6 := hown5.alloc (.cells #[.int .i64 x, .int .i64 y] 66)
                      have hb6 := ((hb.trans (hbw5.mono (by omega))).alloc (by omega) (.cells #[.int .i64 x, .int .i64 y] 66))
                      refine (rhas_any own.e own.l own.i own.c own.base (.slice X own.slots.length cX) Y cY N own.have_ x y _ (Nat.le_trans hr5.lenH hr5.capH) (by simp only [World.size_alloc]; omega) hr6).mono ?_
                      rintro e w7 ⟨rfl, hbw7⟩
                      rw [hrh.out]
                      simp only [World.size_alloc] at hbw7
                      have hown7 := hown6.keep (B := w5.heap.size + 1) hbw7 (fun k hk => by have := (hlo k hk).2; omega)
                      have hb7 := hb6.trans (hbw7.mono (by omega))
                      have hs7 := hbw7.size
                      simp only [World.size_alloc] at hs7
                      have hrow7 := hown7.row len_eSlot
                      have hcs7 : ∀ i, w7.cell? ⟨w5.heap.size, i, none⟩ = #[Value.int .i64 x, Value.int .i64 y][i]? := fun i => by
                        rw [hbw7.cell (p := ⟨w5.heap.size, i, none⟩) (by show w5.heap.size < _; omega)]
                        exact World.cell?_alloc_at _ _ _ _ rfl
                      have hpk' := hpk.out
                      have hm' := hm.out
                      clear hpk hm hown hown5 hown6 hown7
                      generalize pickTo F p done q = L at hpk' hm' hrow7
                      replace hpk' := Lib.hid hpk'
                      have hm := Lib.hid hm'
                      clear hm'
                      have hS := Lib.hid (sorted_any B cB w7.heap.size L x y w7 (Nat.le_refl _) hrow7 (by have := hm.out; omega))
                      rw [← hm.out] at hS
                      go_wp2_with (go_at_call 63; refine hS.out.mono ?_; rintro e w8 ⟨⟨B8, c8, rfl, hown8⟩, hbw8⟩)
                      have hown9 := hown8.lower (base' := w.heap.size) (by omega)
                      have hb8 := hb7.trans (hbw8.mono (by omega))
                      refine ⟨⟨q + 1, B8, c8, m + 1, by rw [show ((q + 1 : Nat) : Int) = q + 1 by omega]; congr 1; omega, rfl, by rw [hpk'.out, ins_length, ← hm.out], by omega, by rw [hpk'.out]; exact hown9, by omega, hb8⟩, by simp [intOf]; omega⟩
                    | true =>
                      have hp : p (x, y) = false := by rw [hpq]; simp [hh]
                      rw [hp, if_neg (by simp)] at hpk
                      replace hpk := Lib.hid hpk
                      rw [hh] at hrh
                      replace hrh := Lib.hid hrh
                      go_wp2_with (go_at_call 31; refine (at_any A2 c2 w2.heap.size fs2 (done + q + 1) wr (by omega) hflr (by omega) (by omega) (by omega) hbs.out).mono ?_; rintro e w5 ⟨rfl, hbw5⟩; rw [hat]; have hs6 := hbw5.size; have hB5 := hBr.trans (hbw5.mono (by omega)); obtain ⟨hb50, hc5, -, hs5⟩ := box1_facts hB5; obtain ⟨k0, k1, k2, k3, k4, k5, k6⟩ := flc_cells hc5; clear hc5; have hr5 := hr.below hb50 hN; have hown5 := hown.keep hbw5 (fun k hk => (hlo k hk).2))
                      have hr6 : RowAt (w5.alloc (.cells #[.int .i64 x, .int .i64 y] 66)) N 1 eInt Y own.have_ := hr5.have_.below ((Below.refl w5.heap.size w5).alloc (Nat.le_refl _) _) (by omega)
                      have hown6 := hown5.alloc (.cells #[.int .i64 x, .int .i64 y] 66)
                      have hb6 := ((hb.trans (hbw5.mono (by omega))).alloc (by omega) (.cells #[.int .i64 x, .int .i64 y] 66))
                      refine (rhas_any own.e own.l own.i own.c own.base (.slice X own.slots.length cX) Y cY N own.have_ x y _ (Nat.le_trans hr5.lenH hr5.capH) (by simp only [World.size_alloc]; omega) hr6).mono ?_
                      rintro e w7 ⟨rfl, hbw7⟩
                      rw [hrh.out]
                      simp only [World.size_alloc] at hbw7
                      have hown7 := hown6.keep (B := w5.heap.size + 1) hbw7 (fun k hk => by have := (hlo k hk).2; omega)
                      have hb7 := hb6.trans (hbw7.mono (by omega))
                      have hs7 := hbw7.size
                      simp only [World.size_alloc] at hs7
                      go_wp2
                      refine ⟨⟨q + 1, B, cB, m, by rw [show ((q + 1 : Nat) : Int) = q + 1 by omega]; congr 1; omega, rfl, by rw [hpk.out]; exact hm.out, by omega, by rw [hpk.out]; exact hown7, by omega, hb7⟩, by simp [intOf]; omega⟩
                  · go_wp2
                    have hqe : q = (cut - done).toNat := by omega
                    subst hqe
                    have hm' := hm.out
                    subst hm'
                    replace hown := Lib.hid hown
                    go_ret2
                    go_light
                    exact ⟨⟨B, cB, _, 0, rfl, hPO'.out, hown.out⟩, (box1_facts (hB4.trans (hb.mono (by omega)))).1⟩
      · have HL : Hid (LacksIs done own fs [] 1) := by
          show (if _ then _ else _); rw [if_pos (by omega)]
          exact .inl ⟨1, by decide, by unfold ListedMore; rw [if_neg h3], rfl, rfl⟩
        by_cases h4 : fs.length < 1
        · go_enter Try.func25, Try.ntmps25
          go_wp2
          go_ret2
          go_light
          exact lacks_none HL.out (below_box1 _ _ _)
        · have h5 : 16 < fs.length := by omega
          go_enter Try.func25, Try.ntmps25
          go_wp2
          go_ret2
          go_light
          exact lacks_none HL.out (below_box1 _ _ _)
end Go.Proofs.Ytcffhfcjfjfokaa
/- What Rest answers, as plain functions. -/
namespace Go.Proofs.Ytcffhfcjfjfokaa
/-- The first of the first k messages with the slot's sender and number: its place. -/
def firstTo (ds : List Dt) (s : Int × Int) : Nat → Option Int
  | 0 => none
  | k + 1 => match firstTo ds s k with
    | some i => some i
    | none => match ds[k]? with
      | some d => if d.s = s.1 ∧ d.q = s.2 then some k else none
      | none => none
theorem firstTo_some {ds : List Dt} {s : Int × Int} : ∀ {k : Nat} {r : Int}, firstTo ds s k = some r → ∃ (i : Nat) (d : Dt), r = i ∧ i < k ∧ ds[i]? = some d ∧ d.s = s.1 ∧ d.q = s.2 ∧ upto (fun d => ¬ (d.s = s.1 ∧ d.q = s.2)) ds i
  | 0, r, h => by cases h
  | k + 1, r, h => by
    rw [firstTo] at h
    cases hk : firstTo ds s k with
    | some i =>
      rw [hk] at h; injection h with h; subst h
      obtain ⟨j, d, e, hj, r⟩ := firstTo_some hk
      exact ⟨j, d, e, by omega, r⟩
    | none =>
      rw [hk] at h
      dsimp only at h
      cases hd : ds[k]? with
      | none => rw [hd] at h; cases h
      | some d =>
        rw [hd] at h
        dsimp only at h
        split at h
        · rename_i hc
          injection h with h
          exact ⟨k, d, h.symm, by omega, hd, hc.1, hc.2, firstTo_none hk⟩
        · cases h
where firstTo_none {ds : List Dt} {s : Int × Int} : ∀ {k : Nat}, firstTo ds s k = none → upto (fun d => ¬ (d.s = s.1 ∧ d.q = s.2)) ds k
  | 0, _ => upto_zero _ _
  | k + 1, h => by
    rw [firstTo] at h
    cases hk : firstTo ds s k with
    | some i => rw [hk] at h; cases h
    | none =>
      rw [hk] at h
      dsimp only at h
      refine upto_succ (firstTo_none hk) fun d hd => ?_
      rw [hd] at h
      dsimp only at h
      split at h
      · cases h
      · assumption
/-- The message for a slot: the first of its sender and number. -/
def FirstD (ds : List Dt) (s : Int × Int) (d : Dt) : Prop := ∃ i : Nat, ds[i]? = some d ∧ d.s = s.1 ∧ d.q = s.2 ∧ upto (fun d => ¬ (d.s = s.1 ∧ d.q = s.2)) ds i
theorem firstD_one {ds : List Dt} {s : Int × Int} {d d' : Dt} (h : FirstD ds s d) (k : FirstD ds s d') : d = d' := by
  obtain ⟨i, a1, a2, a3, a4⟩ := h
  obtain ⟨j, b1, b2, b3, b4⟩ := k
  rcases Nat.lt_trichotomy i j with hlt | e | hgt
  · exact absurd ⟨a2, a3⟩ (b4 i d hlt a1)
  · subst e; rw [a1] at b1; injection b1
  · exact absurd ⟨b2, b3⟩ (a4 j d' hgt b1)
/-- The messages of the k positions behind done, as Rest lists them. -/
inductive RestTo (F : Int → Option (Int × Int)) (ds : List Dt) (done : Int) : Nat → List Dt → Prop
  | nil : RestTo F ds done 0 []
  | snoc {k : Nat} {l : List Dt} {s : Int × Int} {d : Dt} (h : RestTo F ds done k l) (hs : F (done + 1 + k) = some s) (hd : FirstD ds s d) : RestTo F ds done (k + 1) (l ++ [⟨done + 1 + k, s.1, s.2, d.body⟩])
theorem restTo_one {F : Int → Option (Int × Int)} {ds : List Dt} {done : Int} : ∀ {k : Nat} {l l' : List Dt}, RestTo F ds done k l → RestTo F ds done k l' → l = l'
  | 0, _, _, .nil, .nil => rfl
  | k + 1, _, _, .snoc h hs hd, .snoc h' hs' hd' => by
    rw [restTo_one h h']
    rw [hs] at hs'; injection hs' with hs'; subst hs'
    rw [firstD_one hd hd']
/-- At one of the positions the message is not at hand. -/
def RestLacks (F : Int → Option (Int × Int)) (ds : List Dt) (done : Int) (k : Nat) : Prop := ∃ (j : Nat) (s : Int × Int), j < k ∧ F (done + 1 + j) = some s ∧ ∀ d ∈ ds, ¬ (d.s = s.1 ∧ d.q = s.2)
theorem restTo_at {F : Int → Option (Int × Int)} {ds : List Dt} {done : Int} : ∀ {k : Nat} {l : List Dt}, RestTo F ds done k l → ¬ RestLacks F ds done k
  | 0, _, _ => fun ⟨j, _, hj, _⟩ => by omega
  | k + 1, _, .snoc h hs hd => fun ⟨j, s, hj, hF, hn⟩ => by
    by_cases e : j = k
    · subst e
      rw [hs] at hF; injection hF with hF; subst hF
      obtain ⟨i, a1, a2, a3, _⟩ := hd
      exact hn _ (List.mem_of_getElem? a1) ⟨a2, a3⟩
    · exact restTo_at h ⟨j, s, by omega, hF, hn⟩
/-- What Rest answers: the messages and 0, or none and the error. -/
def RestIs (done : Int) (fs : List Fl) (ds ms : List Dt) (n : Int) : Prop :=
  if 0 ≤ done ∧ done ≤ 4611686018427387904 then
    (∃ m, m ≠ 0 ∧ Listed fs m ∧ n = m ∧ ms = []) ∨
    (Listed fs 0 ∧ Fit fs ∧ done < baseOf fs ∧ n = 82 ∧ ms = []) ∨
    (Listed fs 0 ∧ Fit fs ∧ baseOf fs ≤ done ∧ ∃ (cut : Int) (F : Int → Option (Int × Int)), IsCut fs cut ∧ (∀ pos s, F pos = some s ↔ Known fs pos s) ∧
      ((n = 0 ∧ RestTo F ds done (cut - done).toNat ms) ∨ (n = 81 ∧ ms = [] ∧ RestLacks F ds done (cut - done).toNat)))
  else n = 1 ∧ ms = []
theorem rest_one {done : Int} {fs : List Fl} {ds ms ms' : List Dt} {n n' : Int} (h : RestIs done fs ds ms n) (k : RestIs done fs ds ms' n') : ms = ms' ∧ n = n' := by
  unfold RestIs at h k
  by_cases hd : 0 ≤ done ∧ done ≤ 4611686018427387904
  · rw [if_pos hd] at h k
    rcases h with ⟨m, hm, hL, rfl, rfl⟩ | ⟨hL, hf, hlt, rfl, rfl⟩ | ⟨hL, hf, hge, cut, F, hc, hF, hr⟩ <;>
      rcases k with ⟨m', hm', hL', rfl, rfl⟩ | ⟨hL', hf', hlt', rfl, rfl⟩ | ⟨hL', hf', hge', cut', F', hc', hF', hr'⟩
    · exact ⟨rfl, listed_one hL hL'⟩
    · exact absurd (listed_one hL hL') hm
    · exact absurd (listed_one hL hL') hm
    · exact absurd (listed_one hL' hL) hm'
    · exact ⟨rfl, rfl⟩
    · omega
    · exact absurd (listed_one hL' hL) hm'
    · omega
    · obtain rfl := cut_one hc hc'
      have : F = F' := funext fun pos => Option.ext fun s => by rw [hF pos s, hF' pos s]
      subst this
      rcases hr with ⟨rfl, h1⟩ | ⟨rfl, rfl, h1⟩ <;> rcases hr' with ⟨rfl, h2⟩ | ⟨rfl, rfl, h2⟩
      · exact ⟨restTo_one h1 h2, rfl⟩
      · exact absurd h2 (restTo_at h1)
      · exact absurd h1 (restTo_at h2)
      · exact ⟨rfl, rfl⟩
  · rw [if_neg hd] at h k
    exact ⟨by rw [h.2, k.2], by rw [h.1, k.1]⟩
end Go.Proofs.Ytcffhfcjfjfokaa
