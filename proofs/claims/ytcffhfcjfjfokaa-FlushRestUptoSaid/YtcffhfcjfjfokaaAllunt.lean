/- What the law's allUntouched answers where nothing was touched. -/
import Derived.Test.YtcffhfcjfjfokaaRows2
import Derived.Test.YtcffhfcjfjfokaaUntouched
import Derived.Test.YtcffhfcjfjfokaaSameFls
namespace Go.Proofs.Ytcffhfcjfjfokaa
open Go.RowKit
/-- The law's copies lie in memory, as they were made. -/
structure TwMem (w : World) (N : Nat) (T : Option Addr) (cT : Nat) (I : Option Addr) (cI : Nat) (ts : List Tw) : Prop where
  row : RowAt w N 9 eTw T ts
  inn : RowAt w N 7 flTw I ts
  s : ∀ t ∈ ts, RowAt w N 2 eSlot (some ⟨t.g2, 0, none⟩) (t.f.slots ++ [(71, 71)]) ∧ t.f.slots.length + 1 ≤ t.c2 ∧ t.c2 ≤ 9223372036854775807
  h : ∀ t ∈ ts, RowAt w N 1 eInt (some ⟨t.g4, 0, none⟩) (t.f.have_ ++ [72]) ∧ t.f.have_.length + 1 ≤ t.c4 ∧ t.c4 ≤ 9223372036854775807
  capT : ts.length ≤ cT
  capI : ts.length ≤ cI
theorem TwMem.below {w w' : World} {N N' : Nat} {T I : Option Addr} {cT cI : Nat} {ts : List Tw} (h : TwMem w N T cT I cI ts) (hb : Below N' w w') (hN : N ≤ N') : TwMem w' N T cT I cI ts :=
  ⟨h.row.below hb hN, h.inn.below hb hN, fun t ht => ⟨(h.s t ht).1.below hb hN, (h.s t ht).2⟩, fun t ht => ⟨(h.h t ht).1.below hb hN, (h.h t ht).2⟩, h.capT, h.capI⟩
theorem TwMem.fls {w : World} {N : Nat} {T I : Option Addr} {cT cI : Nat} {ts : List Tw} (h : TwMem w N T cT I cI ts) : Fls w N I (ts.map Tw.f) := fun h0 => by
  obtain ⟨b, off, hA, hb, hc⟩ := h.inn (by simpa using h0)
  refine ⟨b, off, hA, hb, fun k f hf => ?_⟩
  rw [List.getElem?_map] at hf
  cases hr : ts[k]? with
  | none => rw [hr] at hf; cases hf
  | some r =>
    rw [hr] at hf; cases hf
    have hm := List.mem_of_getElem? hr
    refine ⟨_, _, _, _, ⟨hc k r hr 0 _ rfl, hc k r hr 1 _ rfl, hc k r hr 2 _ rfl, hc k r hr 3 _ rfl, hc k r hr 4 _ rfl, hc k r hr 5 _ rfl, hc k r hr 6 _ rfl⟩, ⟨(h.s r hm).1.front, (h.h r hm).1.front, by have := (h.s r hm).2.1; omega, (h.s r hm).2.2, by have := (h.h r hm).2.1; omega, (h.h r hm).2.2⟩⟩
theorem twMem_of {w wr : World} {fs : List Fl} {ts : List Tw} {T I : Option Addr} {cT cI : Nat} (h : TwRel w wr fs fs.length ts T cT I cI) : TwMem wr wr.heap.size T cT I cI ts :=
  ⟨h.own.row len_eTw, h.inn.row len_flTw, fun t ht => ⟨(h.each t ht).s.row len_eSlot, by have := (h.each t ht).s.len; simp at this; exact this⟩, fun t ht => ⟨(h.each t ht).h.row len_eInt, by have := (h.each t ht).h.len; simp at this; exact this⟩, h.own.len.1, h.inn.len.1⟩
theorem row_tw {w : World} {N : Nat} {T : Option Addr} {ts : List Tw} (h : RowAt w N 9 eTw T ts) {k : Nat} (hk : k < ts.length) : ∃ b off t, T = some ⟨b, off, none⟩ ∧ b < N ∧ Hid (ts[k]? = some t) ∧
    w.cell? ⟨b, off + k * 9, none⟩ = some (.int .i64 t.f.e) ∧ w.cell? ⟨b, off + k * 9 + 1, none⟩ = some (.int .i64 t.f.l) ∧ w.cell? ⟨b, off + k * 9 + 2, none⟩ = some (.int .i64 t.f.i) ∧ w.cell? ⟨b, off + k * 9 + 3, none⟩ = some (.int .i64 t.f.c) ∧
    w.cell? ⟨b, off + k * 9 + 4, none⟩ = some (.int .i64 t.f.base) ∧ w.cell? ⟨b, off + k * 9 + 5, none⟩ = some (.slice (some ⟨t.g2, 0, none⟩) t.f.slots.length t.c2) ∧ w.cell? ⟨b, off + k * 9 + 6, none⟩ = some (.slice (some ⟨t.g4, 0, none⟩) t.f.have_.length t.c4) ∧
    w.cell? ⟨b, off + k * 9 + 7, none⟩ = some (.slice (some ⟨t.g2, 0, none⟩) (t.f.slots.length + 1) t.c2) ∧ w.cell? ⟨b, off + k * 9 + 8, none⟩ = some (.slice (some ⟨t.g4, 0, none⟩) (t.f.have_.length + 1) t.c4) := by
  obtain ⟨b, off, e, hb, hc⟩ := h (by omega)
  have hg : ts[k]? = some ts[k] := List.getElem?_eq_getElem hk
  exact ⟨b, off, ts[k], e, hb, hg, hc k _ hg 0 _ rfl, hc k _ hg 1 _ rfl, hc k _ hg 2 _ rfl, hc k _ hg 3 _ rfl, hc k _ hg 4 _ rfl, hc k _ hg 5 _ rfl, hc k _ hg 6 _ rfl, hc k _ hg 7 _ rfl, hc k _ hg 8 _ rfl⟩
set_option maxRecDepth 100000 in
set_option maxHeartbeats 2000000 in
theorem allunt_any (T I A : Option Addr) (cT cI cA N : Nat) (fs : List Fl) (ts : List Tw) (w : World) (hN : N ≤ w.heap.size) (hT : TwMem w N T cT I cI ts) (hts : ts.map Tw.f = fs) (hA : Fls w N A fs) (hl : fs.length ≤ 9223372036854775807) :
    Calls Try.prog 17 #[.slice T fs.length cT, .slice I fs.length cI, .slice A fs.length cA] w fun x w' => x = .returned (.bool true) ∧ Below w.heap.size w w' := by
  have hlen : ts.length = fs.length := by rw [← hts, List.length_map]
  have Hts := Lib.hid hts
  have Hlen := Lib.hid hlen
  clear hts hlen
  go_enter Try.func17, Try.ntmps17
  go_wp2
  go_loopw [7] (fun k wr => ∃ q : Nat, k = .int .i64 q ∧ q ≤ fs.length ∧ Below w.heap.size w wr) (fun k _ => fs.length - (intOf k).toNat)
  case atStart => exact ⟨0, rfl, by omega, Below.refl _ _⟩
  case round =>
    obtain ⟨q, rfl, hq, hb⟩ := hrel
    have hsz := hb.size
    have hTw := hT.below hb hN
    by_cases hlt : q < fs.length
    · obtain ⟨g, o, t, rfl, hg, ht, d0, d1, d2, d3, d4, d5, d6, d7, d8⟩ := row_tw hTw.row (k := q) (by rw [Hlen.out]; exact hlt)
      obtain ⟨g', o', f, X, cX, Y, cY, rfl, hg', hf, ⟨c0, c1, c2, c3, c4, c5, c6⟩, hr⟩ := (hA.below hb hN).at_ hlt
      obtain rfl : t.f = f := by
        have h1 := hf.out
        rw [← Hts.out, List.getElem?_map, ht.out] at h1
        exact Option.some.inj h1
      have hm := List.mem_of_getElem? ht.out
      obtain ⟨s1, s2, s3⟩ := hTw.s t hm
      obtain ⟨u1, u2, u3⟩ := hTw.h t hm
      have hgw : g < wr.heap.size := by omega
      have hgw' : g' < wr.heap.size := by omega
      have hb1 : Below N wr wr.drew := Below.drew (Below.refl _ _)
      clear hT hTw hA
      go_wp2
      go_still_tail 8, (by kernel_rfl)
      change wpList _ _ _ _ _ wr.drew
      go_wp2_with (go_at_call 27; refine (untouched_yes (w := wr.drew) t.f t.f _ _ _ _ N _ _ _ _ (by show N ≤ wr.heap.size; omega) (s1.below hb1 (Nat.le_refl _)) (u1.below hb1 (Nat.le_refl _)) s2 s3 u2 u3 (hr.below hb1 (Nat.le_refl _)) rfl).mono ?_; rintro e w' ⟨rfl, hbw⟩)
      go_roundw
      case rel => go_light; exact ⟨q + 1, by go_num, by omega, (Below.drew hb).trans (hbw.mono (by show _ ≤ wr.heap.size; omega))⟩
      case measure => go_light; simp [intOf]; omega
    · have hfl := hTw.fls
      rw [Hts.out] at hfl
      go_wp2_with (go_at_call 55; refine (sameFls_yes I A cI cA N fs _ (by omega) hfl (hA.below hb hN) hl).mono ?_; rintro e w' ⟨rfl, hbw⟩)
      go_ret
      go_light
      exact ⟨rfl, hb.trans (hbw.mono hsz)⟩
end Go.Proofs.Ytcffhfcjfjfokaa
