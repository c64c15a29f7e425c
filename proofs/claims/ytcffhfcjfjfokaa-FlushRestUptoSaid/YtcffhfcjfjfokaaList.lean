/- What the program's list answers. -/
import Derived.Test.YtcffhfcjfjfokaaJoined
import Derived.Test.YtcffhfcjfjfokaaRows2
namespace Go.Proofs.Ytcffhfcjfjfokaa
open Go.RowKit
theorem Rws.below {w w' : World} {N N' : Nat} {A : Option Addr} {rs : List Rw} (h : Rws w N A rs) (hb : Below N' w w') (hN : N ≤ N') : Rws w' N A rs :=
  ⟨h.row.below hb hN, fun r hr => (h.each r hr).below hb hN⟩
/-- What list answers: what joined answers of all of them, if they are not too many. -/
def ListPost (fs gs : List Fl) (w : World) (e : Ending) (w' : World) : Prop :=
  if 1 ≤ fs.length ∧ fs.length ≤ 16 then JoinedPost (fs ++ gs) w e w' else e = .returned (.tuple #[.pointer none, .int .i64 1]) ∧ Below w.heap.size w w'
theorem joined_from {fs : List Fl} {w w1 w' : World} {e : Ending} (h : JoinedPost fs w1 e w') (hb : Below w.heap.size w w1) : JoinedPost fs w e w' := by
  have hs := hb.size
  obtain ⟨h1, h2⟩ := h
  refine ⟨hb.trans (h1.mono hs), ?_⟩
  rcases h2 with h2 | ⟨bs, bu, cut, F, n, a, b, c, d, d2, r⟩
  · exact .inl h2
  · exact .inr ⟨bs, bu, cut, F, n, a, b, c, by omega, by omega, r⟩
set_option maxRecDepth 100000 in
set_option maxHeartbeats 4000000 in
theorem list_any (A B : Option Addr) (cA cB N : Nat) (fs gs : List Fl) (w : World) (hN : N ≤ w.heap.size) (hA : Fls w N A fs) (hB : Fls w N B gs) (hl : fs.length ≤ 9223372036854775807) (hg : gs.length ≤ 1) :
    Calls Try.prog 52 #[.slice A fs.length cA, .slice B gs.length cB] w (ListPost fs gs w) := by
  by_cases h1 : fs.length < 1
  · have HL : Hid (∀ e w', e = .returned (.tuple #[.pointer none, .int .i64 1]) → Below w.heap.size w w' → ListPost fs gs w e w') := by intro e w' a b; show (if _ then _ else _); rw [if_neg (by omega)]; exact ⟨a, b⟩
    go_enter Try.func52, Try.ntmps52
    go_wp2
    go_ret2
    go_light
    exact HL.out _ _ rfl (Below.refl _ _)
  · by_cases h2 : 16 < fs.length
    · have HL : Hid (∀ e w', e = .returned (.tuple #[.pointer none, .int .i64 1]) → Below w.heap.size w w' → ListPost fs gs w e w') := by intro e w' a b; show (if _ then _ else _); rw [if_neg (by omega)]; exact ⟨a, b⟩
      go_enter Try.func52, Try.ntmps52
      go_wp2
      go_ret2
      go_light
      exact HL.out _ _ rfl (Below.refl _ _)
    · have HL : Hid (∀ e w', JoinedPost (fs ++ gs) w e w' → ListPost fs gs w e w') := by intro e w' a; show (if _ then _ else _); rw [if_pos (by omega)]; exact a
      obtain ⟨rs, hrs, hR⟩ := fls_rows hA
      obtain ⟨ss, hss, hS⟩ := fls_rows hB
      have hlr : rs.length = fs.length := by rw [← hrs, List.length_map]
      have hls : ss.length = gs.length := by rw [← hss, List.length_map]
      have Hlr := Lib.hid hlr
      have Hls := Lib.hid hls
      replace hrs := Lib.hid hrs
      replace hss := Lib.hid hss
      clear hlr hls hA hB
      go_enter Try.func52, Try.ntmps52
      go_wp2_with (at_builtin; refine wpList_append_rows _ rfl (.const (.slice none 0 0)) (.tmp 14) 22 rfl w.heap.size 39 7 88 _ Try.underlying22 info39 rfl (by decide) eRw len_eRw one_eRw none 0 [] A cA N 0 fs.length rs rfl rfl rfl ?_ ?_ ?_ ?_ ?_ ?_ ?_)
      · exact Hlr.out
      · exact owns_nil _ _ _ _ _
      · exact hR.row
      · omega
      · omega
      · omega
      · intro A1 c1 w1 ho1 hg1 hk1
        have hb1 : Below w.heap.size w w1 := (Below.refl _ _).grown hg1 (Nat.le_refl _) (by intro k hk; simp [blk] at hk)
        have hlo1 := ho1.lo
        clear hg1 hk1
        go_wp2_with (at_builtin; refine wpList_append_rows _ rfl (.tmp 15) (.tmp 16) 22 rfl w.heap.size 39 7 88 _ Try.underlying22 info39 rfl (by decide) eRw len_eRw one_eRw A1 c1 rs B cB N fs.length gs.length ss rfl rfl ?_ ?_ ?_ ?_ ?_ ?_ ?_ ?_)
        · exact Hlr.out
        · exact Hls.out
        · exact ho1
        · exact hS.row.below hb1 hN
        · omega
        · omega
        · exact hb1.size
        · intro A2 c2 w2 ho2 hg2 hk2
          have hb2 : Below w.heap.size w w2 := hb1.grown hg2 hb1.size (fun k hk => (hlo1 k hk).1)
          have hrow := ho2.row len_eRw
          have hs2 := hb2.size
          have hfl : Fls w2 w2.heap.size A2 (fs ++ gs) := by
            have hx : Rws w2 w2.heap.size A2 (rs ++ ss) := ⟨hrow, fun r hr => by
              rcases List.mem_append.1 hr with h | h
              · exact ((hR.each r h).below hb2 hN).more (by omega)
              · exact ((hS.each r h).below hb2 hN).more (by omega)⟩
            have := rows_fls hx
            rw [List.map_append, hrs.out, hss.out] at this; exact this
          have hlen : fs.length + gs.length = (fs ++ gs).length := by rw [List.length_append]
          have HFl := Lib.hid hfl
          have Hlen := Lib.hid hlen
          clear ho1 ho2 hg2 hk2 hrow hfl hlen hR hS hlo1
          go_wp2_with (go_at_call 97; rw [Hlen.out]; refine (joined_any A2 c2 w2.heap.size (fs ++ gs) w2 (Nat.le_refl _) HFl.out (by rw [← Hlen.out]; omega) (by rw [← Hlen.out]; omega)).mono ?_; intro e w' hj; obtain ⟨hjb, hj⟩ := joined_from hj hb2; rcases hj with ⟨n, rfl, hn1, hn2⟩ | ⟨bs, bu, cut, F, n, rfl, hn1⟩)
          · go_ret2
            go_light
            exact HL.out _ _ ⟨hjb, .inl ⟨n, rfl, hn1, hn2⟩⟩
          · go_ret2
            go_light
            exact HL.out _ _ ⟨hjb, .inr ⟨bs, bu, cut, F, n, rfl, hn1⟩⟩
/-- The error of contents and more contents. -/
def ListedMore (fs gs : List Fl) (n : Int) : Prop := if 1 ≤ fs.length ∧ fs.length ≤ 16 then Together (fs ++ gs) n else n = 1
theorem list_cases {fs gs : List Fl} {w w' : World} {e : Ending} (h : ListPost fs gs w e w') : Below w.heap.size w w' ∧
    ((∃ n, e = .returned (.tuple #[.pointer none, .int .i64 n]) ∧ n ≠ 0 ∧ ListedMore fs gs n) ∨
     (∃ bs bu cut F n, e = .returned (.tuple #[.pointer (some ⟨bs, 0, none⟩), .int .i64 0]) ∧ ListedMore fs gs 0 ∧ Fit (fs ++ gs) ∧ IsCut (fs ++ gs) cut ∧ w.heap.size ≤ bs ∧ w.heap.size ≤ bu ∧
       w'.heap[bs]? = some (.cells #[.int .i64 (baseOf (fs ++ gs)), .int .i64 cut, .map (some bu)] 119 (0, 0)) ∧ MapsTo w' Try.prog 3 bu n vInt vSlot F ∧ ∀ pos s, F pos = some s ↔ Known (fs ++ gs) pos s)) := by
  unfold ListPost at h
  by_cases hl : 1 ≤ fs.length ∧ fs.length ≤ 16
  · rw [if_pos hl] at h
    obtain ⟨hb, h⟩ := h
    refine ⟨hb, ?_⟩
    rcases h with ⟨n, a, b, c⟩ | ⟨bs, bu, cut, F, n, a, b, c, d⟩
    · exact .inl ⟨n, a, b, by unfold ListedMore; rw [if_pos hl]; exact c⟩
    · exact .inr ⟨bs, bu, cut, F, n, a, by unfold ListedMore; rw [if_pos hl]; exact b, fit_iff.1 b, c, d⟩
  · rw [if_neg hl] at h
    exact ⟨h.2, .inl ⟨1, h.1, by decide, by unfold ListedMore; rw [if_neg hl]⟩⟩
end Go.Proofs.Ytcffhfcjfjfokaa
