/- The document's Unquote at any text that begins with a double quote. -/
import Derived.Test.YtchggapclmdpaaaGreatDoorRefEsc
import Derived.Test.YtchggapclmdpaaaGreatDoorGl
namespace Go.Proofs.YtchggapclmdpaaaGreatDoor
open Go.RowKit Go.Lib

def RUnqPost (R : Option (List UInt8)) (w : World) (e : Ending) (w' : World) : Prop :=
  ((∃ (t : List UInt8) (n : Int), R = some t ∧ e = .returned (.tuple #[.string ⟨t.toArray⟩, .int .i64 0, .int .i64 n])) ∨ (R = none ∧ ∃ n : Int, e = .returned (.tuple #[.string ⟨#[]⟩, .int .i64 42, .int .i64 n]))) ∧ Below w.heap.size w w'
set_option maxHeartbeats 8000000 in
set_option maxRecDepth 100000 in
theorem refUnquote_any (s : ByteArray) (r : List UInt8) (w : World) (hs : s.data.toList = 34 :: r) (hbig : s.size ≤ 1000000) :
    Calls Tryz.prog 140 #[.string s] w (RUnqPost (unqR (r.length + 1) r []) w) := by
  have hsz : s.size = r.length + 1 := by
    have : s.size = s.data.toList.length := (Array.length_toList).symm
    rw [this, hs]; simp
  obtain ⟨R, hR⟩ : ∃ R, unqR (r.length + 1) r [] = R := ⟨_, rfl⟩
  rw [hR]
  obtain ⟨i0, hi, hz0, hz1, hz2⟩ := info_parts Tryz.infoByte
  have HI := Lib.hid (show _ ∧ _ ∧ _ ∧ _ from ⟨hi, hz0, hz1, hz2⟩)
  have hpos : 0 < s.size := by omega
  have h0 := first_byte hs hpos
  have i0' : (0 : Int) < (s.size : Int) := by omega
  have i1' : ((s.size : Int) == 0) = false := by rw [beq_eq_false_iff_ne]; omega
  have hd1 : s.data.toList.drop 1 = r := by rw [hs]; rfl
  have HS := Lib.hid (show _ ∧ _ ∧ _ from ⟨hsz, hR, hd1⟩)
  clear hs hsz hR hd1 hi hz0 hz1 hz2
  go_enter Tryz.func140, Tryz.ntmps140
  go_wp2
  go_loopw [6, 7] (fun v i wr => ∃ (k f : Nat) (acc : List UInt8), 1 ≤ k ∧ k ≤ s.size + 9 ∧ i = .int .i64 k ∧ acc.length ≤ 4 * k ∧ Hid (s.size + 1 ≤ k + f ∧ unqR f (s.data.toList.drop k) acc = R ∧ wr.ownsRow w.heap.size 5 1 v acc.length (bytesV acc) ∧ Below w.heap.size w wr)) (fun _ i _ => s.size + 10 - (intOf i).toNat)
  case atStart => exact ⟨1, r.length + 1, [], Nat.le_refl _, by omega, rfl, by simp, Lib.hid ⟨by have := HS.out.1; omega, by rw [HS.out.2.2]; exact HS.out.2.1, World.ownsRow_nil _ _ _ _, Below.refl _ _⟩⟩
  case round =>
    obtain ⟨k, f, acc, hk1, hk9, rfl, hacc, HR⟩ := hrel
    have hsw := HR.out.2.2.2.size
    by_cases hlt : k < s.size
    · have j0 : (0 : Int) ≤ (k : Int) := by omega
      have j1 : (k : Int) < (s.size : Int) := by omega
      have j2 : ¬ (s.size : Int) ≤ (k : Int) := by omega
      obtain ⟨c, hc⟩ : ∃ c, s[k]'hlt = c := ⟨_, rfl⟩
      have hdr := drop_at hlt
      rw [hc] at hdr
      obtain ⟨f', rfl⟩ : ∃ f', f = f' + 1 := ⟨f - 1, by have := HR.out.1; omega⟩
      have hun := HR.out.2.1
      rw [hdr] at hun
      clear hdr
      by_cases h34 : c = 34
      · subst h34
        rw [unqR_q] at hun
        have hconv := own_text HR.out.2.2.1
        have HU := Lib.hid (show _ ∧ _ from ⟨hun, HR.out.2.2.1⟩)
        clear hun
        go_wp2
        exact bodyPost_ret (v := .tuple #[.string ⟨acc.toArray⟩, .int .i64 0, .int .i64 ((k : Int) + 1)]) (by simp [results, Tryz.results140, go_sem]) rfl ⟨.inl ⟨acc, _, HU.out.1.symm, rfl⟩, HR.out.2.2.2⟩
      · have q1 : ((c.toNat : Int) == 34) = false := byte_ne h34
        by_cases h10 : c = 10
        · subst h10
          rw [unqR_nl] at hun
          have HU := Lib.hid hun
          clear hun
          go_wp2
          rw [← HU.out]
          exact bodyPost_ret (v := .tuple #[.string ⟨#[]⟩, .int .i64 42, .int .i64 k]) (by simp [results, Tryz.results140, go_sem]; first | rfl | done) rfl ⟨.inr ⟨rfl, _, rfl⟩, HR.out.2.2.2⟩
        · have q2 : ((c.toNat : Int) == 10) = false := byte_ne h10
          by_cases h92 : c = 92
          · subst h92
            have hex := refEscape_any s (k + 1) wr (by omega) (by omega)
            rw [show ((k + 1 : Nat) : Int) = (k : Int) + 1 by omega] at hex
            have HX := Lib.hid (show _ ∧ _ from ⟨hex, hun⟩)
            clear hex hun
            go_wp2_with fail
            refine HX.out.1.mono ?_
            rintro e w1 ⟨⟨x, m, v, hx, rfl, ho1⟩ | ⟨hx, qw, hv, rfl⟩, hb1⟩
            · have hxl := escR_len hx
              have hun := HX.out.2
              rw [unqR_esc hx, List.drop_drop] at hun
              have hs1 := hb1.size
              obtain ⟨g, cg, rfl⟩ : ∃ g cg, v = .slice (some ⟨g, 0, none⟩) x.length cg := by
                rcases ho1.2 with ⟨_, h⟩ | ⟨g, cap, cur, h, _⟩
                · omega
                · exact ⟨g, cap, h⟩
              have hnews : ∀ (j : Nat) (u : Value), (bytesV x)[j]? = some u → w1.cell? ((⟨g, 0, none⟩ : Addr).add j) = some u := fun j u hu => by
                rw [show ((⟨g, 0, none⟩ : Addr).add j) = ⟨g, j, none⟩ by simp only [Addr.add, Nat.zero_add]; cases j <;> rfl]
                exact owns_cell ho1 rfl hu
              have honev : ∀ u ∈ bytesV x, u.oneCell' = true := fun u hu => by
                unfold bytesV at hu
                obtain ⟨q, _, rfl⟩ := List.mem_map.1 hu
                rfl
              have ho := owns_below HR.out.2.2.1 hb1
              have hbw := HR.out.2.2.2.trans (hb1.mono hsw)
              have hfl := HR.out.1
              have H1 := Lib.hid (show _ ∧ _ ∧ _ ∧ _ ∧ _ from ⟨ho, hnews, honev, hbw, hun⟩)
              clear ho hnews honev hbw hun ho1 hb1 hx
              obtain ⟨hi, hz0, hz1, hz2⟩ := HI.out
              have hbs := H1.out.2.2.2.1.size
              go_wp2_with (at_builtin; refine wpList_append_own _ rfl _ _ 75 rfl w.heap.size 5 i0 _ 1 1 Tryz.underlying75 hi hz0 hz1 hz2 rfl (by omega) _ acc.length (bytesV acc) rfl H1.out.1 ⟨g, 0, none⟩ x.length cg (bytesV x) rfl (by rw [bytesV_length]; omega) H1.out.2.1 H1.out.2.2.1 (by unfold maxLen; omega) (by omega) hbs ?_; intro v5 w5 ho5 hg5 _; have H5 := Lib.hid (show w5.ownsRow w.heap.size 5 1 v5 (acc ++ x).length (bytesV (acc ++ x)) ∧ Below w.heap.size w w5 from ⟨by (rw [bytesV_append, List.length_append]; exact ho5), H1.out.2.2.2.1.grown hg5 hbs (fun j hj => (H1.out.1.lt j hj).1)⟩); clear ho5 hg5)
              go_roundw
              case measure => simp [intOf]; omega
              case rel => exact ⟨k + 1 + m, f', acc ++ x, by omega, by omega, by first | (simp; done) | (simp; omega), by rw [List.length_append]; omega, Lib.hid ⟨by omega, H1.out.2.2.2.2, H5.out.1, H5.out.2⟩⟩
            · have hun := HX.out.2
              rw [unqR_bad hx] at hun
              have hbw := HR.out.2.2.2.trans (hb1.mono hsw)
              have H1 := Lib.hid (show _ ∧ _ from ⟨hbw, hun⟩)
              clear hun hbw hb1 hx
              rcases hv with rfl | rfl
              · go_wp2
                rw [← H1.out.2]
                exact bodyPost_ret (v := .tuple #[.string ⟨#[]⟩, .int .i64 42, .int .i64 k]) (by simp [results, Tryz.results140, go_sem]; first | rfl | done) rfl ⟨.inr ⟨rfl, _, rfl⟩, H1.out.1⟩
              · go_wp2
                rw [← H1.out.2]
                exact bodyPost_ret (v := .tuple #[.string ⟨#[]⟩, .int .i64 42, .int .i64 s.size]) (by simp [results, Tryz.results140, go_sem]; first | rfl | done) rfl ⟨.inr ⟨rfl, _, rfl⟩, H1.out.1⟩
          · have q3 : ((c.toNat : Int) == 92) = false := byte_ne h92
            rw [unqR_byte h34 h10 h92] at hun
            have HU := Lib.hid hun
            clear hun
            obtain ⟨hi, hz0, hz1, hz2⟩ := HI.out
            have hfl := HR.out.1
            go_wp2_with (at_builtin; refine wpList_append_own _ rfl _ _ 75 rfl w.heap.size 5 i0 _ 1 1 Tryz.underlying75 hi hz0 hz1 hz2 rfl (by omega) _ acc.length (bytesV acc) rfl (HR.out.2.2.1.alloc _) ⟨wr.heap.size, 0, none⟩ 1 1 [Value.int .u8 c.toNat] rfl rfl (cells_newL wr [Value.int .u8 c.toNat] _) (by simp [Value.oneCell']) (by unfold maxLen; omega) (by omega) (by simp; omega) ?_; intro v5 w5 ho5 hg5 _; have H5 := Lib.hid (show w5.ownsRow w.heap.size 5 1 v5 (acc ++ [c]).length (bytesV (acc ++ [c])) ∧ Below w.heap.size w w5 from ⟨by (rw [bytesV_append, List.length_append]; exact ho5), (HR.out.2.2.2.alloc hsw _).grown hg5 (by simp; omega) (fun j hj => (HR.out.2.2.1.lt j hj).1)⟩); clear ho5 hg5)
            go_roundw
            case measure => simp [intOf]; omega
            case rel => exact ⟨k + 1, f', acc ++ [c], by omega, by omega, by simp, by rw [List.length_append, List.length_singleton]; omega, Lib.hid ⟨by omega, HU.out, H5.out.1, H5.out.2⟩⟩
    · have j1 : ¬ (k : Int) < (s.size : Int) := by omega
      have j2 : (s.size : Int) ≤ (k : Int) := by omega
      have hun := HR.out.2.1
      rw [List.drop_eq_nil_of_le (by rw [Array.length_toList]; show s.size ≤ k; omega), unqR_end] at hun
      have HU := Lib.hid hun
      clear hun
      go_wp2
      rw [← HU.out]
      exact bodyPost_ret (v := .tuple #[.string ⟨#[]⟩, .int .i64 42, .int .i64 s.size]) (by simp [results, Tryz.results140, go_sem]; first | rfl | done) rfl ⟨.inr ⟨rfl, _, rfl⟩, HR.out.2.2.2⟩
end Go.Proofs.YtchggapclmdpaaaGreatDoor
