/- text.escape, whatever stands behind the backslash. text.unquote, text.Unquote at any text that begins with a double quote. -/
import Derived.Test.YtchggapclmdpaaaGreatDoorGi
import Derived.Test.YtchggapclmdpaaaGreatDoorGj
import Derived.Test.YtchggapclmdpaaaGreatDoorGk
import Derived.Test.YtchggapclmdpaaaGreatDoorGh
import Derived.Test.YtchggapclmdpaaaGreatDoorGo
namespace Go.Proofs.YtchggapclmdpaaaGreatDoor
open Go.RowKit Go.Lib

set_option maxHeartbeats 2000000 in
set_option maxRecDepth 100000 in
theorem escape_end (K : Nat) (a b : Addr) (s : ByteArray) (w : World) (hE : LaidE K a b w) (hs : s.data.toList = []) :
    Calls Tryz.prog 187 #[.string s] w (EscPost a b s.data.toList w) := by
  have hne : (s.toList == []) = true := by rw [ByteArray.toList_eq, hs]; rfl
  have cf := hE.fin
  rw [hs]
  clear hE hs
  go_enter Tryz.func187, Tryz.ntmps187
  go_wp2_with (go_quiet (fail))
  exact bodyPost_ret (v := .tuple #[.slice none 0 0, .int .i64 0, .iface 341 (.pointer (some a))]) (by simp [results, Tryz.results187, go_sem]) rfl ⟨.inr ⟨rfl, _, .inl rfl, rfl⟩, below_drewN (Below.refl _ _) _⟩
/-- A byte that nothing stands for. -/
def noEsc (c : UInt8) : Prop := c ≠ 97 ∧ c ≠ 98 ∧ c ≠ 102 ∧ c ≠ 110 ∧ c ≠ 114 ∧ c ≠ 116 ∧ c ≠ 118 ∧ c ≠ 92 ∧ c ≠ 39 ∧ c ≠ 34 ∧ c ≠ 85 ∧ c ≠ 117 ∧ c ≠ 120 ∧ c ≠ 48 ∧ c ≠ 49 ∧ c ≠ 50 ∧ c ≠ 51 ∧ c ≠ 52 ∧ c ≠ 53 ∧ c ≠ 54 ∧ c ≠ 55
set_option maxHeartbeats 2000000 in
set_option maxRecDepth 100000 in
theorem escape_none (K : Nat) (a b : Addr) (s : ByteArray) (c : UInt8) (r : List UInt8) (w : World) (hE : LaidE K a b w) (hs : s.data.toList = c :: r) (hc : noEsc c) :
    Calls Tryz.prog 187 #[.string s] w (EscPost a b s.data.toList w) := by
  have hsz : s.size = r.length + 1 := by
    have : s.size = s.data.toList.length := (Array.length_toList).symm
    rw [this, hs]; simp
  have hpos : 0 < s.size := by omega
  have h0 := first_byte hs hpos
  have hne : (s.toList == []) = false := by rw [ByteArray.toList_eq, hs]; rfl
  have i0 : (0 : Int) < (s.size : Int) := by omega
  have ce := hE.esc
  obtain ⟨n97, n98, n102, n110, n114, n116, n118, n92, n39, n34, n85, n117, n120, n48, n49, n50, n51, n52, n53, n54, n55⟩ := hc
  have her : escR (c :: r) = none := by
    refine escR_none ?_ ?_
    · unfold simpleV
      rw [if_neg n97, if_neg n98, if_neg n102, if_neg n110, if_neg n114, if_neg n116, if_neg n118, if_neg]
      · decide
      · rintro (h | h | h)
        · exact n92 h
        · exact n39 h
        · exact n34 h
    · unfold escK
      rw [if_neg n120, if_neg n117, if_neg n85, if_neg]
      rintro ⟨h1, h2⟩
      have h3 : ∀ m : UInt8, c ≠ m → c.toNat ≠ m.toNat := fun m h e => h (UInt8.toNat_inj.1 e)
      have m48 := h3 48 n48
      have m49 := h3 49 n49
      have m50 := h3 50 n50
      have m51 := h3 51 n51
      have m52 := h3 52 n52
      have m53 := h3 53 n53
      have m54 := h3 54 n54
      have m55 := h3 55 n55
      simp at m48 m49 m50 m51 m52 m53 m54 m55
      omega
  have q97 : ((c.toNat : Int) == 97) = false := byte_ne n97
  have q98 : ((c.toNat : Int) == 98) = false := byte_ne n98
  have q102 : ((c.toNat : Int) == 102) = false := byte_ne n102
  have q110 : ((c.toNat : Int) == 110) = false := byte_ne n110
  have q114 : ((c.toNat : Int) == 114) = false := byte_ne n114
  have q116 : ((c.toNat : Int) == 116) = false := byte_ne n116
  have q118 : ((c.toNat : Int) == 118) = false := byte_ne n118
  have q92 : ((c.toNat : Int) == 92) = false := byte_ne n92
  have q39 : ((c.toNat : Int) == 39) = false := byte_ne n39
  have q34 : ((c.toNat : Int) == 34) = false := byte_ne n34
  have q85 : ((c.toNat : Int) == 85) = false := byte_ne n85
  have q117 : ((c.toNat : Int) == 117) = false := byte_ne n117
  have q120 : ((c.toNat : Int) == 120) = false := byte_ne n120
  have q48 : ((c.toNat : Int) == 48) = false := byte_ne n48
  have q49 : ((c.toNat : Int) == 49) = false := byte_ne n49
  have q50 : ((c.toNat : Int) == 50) = false := byte_ne n50
  have q51 : ((c.toNat : Int) == 51) = false := byte_ne n51
  have q52 : ((c.toNat : Int) == 52) = false := byte_ne n52
  have q53 : ((c.toNat : Int) == 53) = false := byte_ne n53
  have q54 : ((c.toNat : Int) == 54) = false := byte_ne n54
  have q55 : ((c.toNat : Int) == 55) = false := byte_ne n55
  rw [hs]
  have HR := Lib.hid her
  clear hE hs her hsz n97 n98 n102 n110 n114 n116 n118 n92 n39 n34 n85 n117 n120 n48 n49 n50 n51 n52 n53 n54 n55
  go_enter Tryz.func187, Tryz.ntmps187
  go_wp2_with (go_quiet (fail))
  exact bodyPost_ret (v := .tuple #[.slice none 0 0, .int .i64 0, .iface 341 (.pointer (some b))]) (by simp [results, Tryz.results187, go_sem]) rfl ⟨.inr ⟨HR.out, _, .inr rfl, rfl⟩, below_drewN (Below.refl _ _) _⟩
theorem escape_any (K : Nat) (a b : Addr) (s : ByteArray) (w : World) (hE : LaidE K a b w) (hbig : s.size ≤ 1000000000) :
    Calls Tryz.prog 187 #[.string s] w (EscPost a b s.data.toList w) := by
  match hs : s.data.toList with
  | [] => rw [← hs]; exact escape_end K a b s w hE hs
  | c :: r =>
    rw [← hs]
    by_cases hx : c = 97 ∨ c = 98 ∨ c = 102 ∨ c = 110 ∨ c = 114 ∨ c = 116 ∨ c = 118 ∨ c = 92 ∨ c = 39 ∨ c = 34
    · rcases hx with rfl | rfl | rfl | rfl | rfl | rfl | rfl | rfl | rfl | rfl
      · exact escape_s97 a b s r w hs
      · exact escape_s98 a b s r w hs
      · exact escape_s102 a b s r w hs
      · exact escape_s110 a b s r w hs
      · exact escape_s114 a b s r w hs
      · exact escape_s116 a b s r w hs
      · exact escape_s118 a b s r w hs
      · exact escape_s92 a b s r w hs
      · exact escape_s39 a b s r w hs
      · exact escape_s34 a b s r w hs
    · by_cases h1 : c = 120
      · exact escape_x K a b s c r w hE hs h1 hbig
      · by_cases h2 : c = 117
        · exact escape_u K a b s c r w hE hs h2 hbig
        · by_cases h3 : c = 85
          · exact escape_U K a b s c r w hE hs h3 hbig
          · by_cases h4 : c = 48 ∨ c = 49 ∨ c = 50 ∨ c = 51
            · rcases h4 with h | h | h | h
              · exact escape_o48 K a b s c r w hE hs h hbig
              · exact escape_o49 K a b s c r w hE hs h hbig
              · exact escape_o50 K a b s c r w hE hs h hbig
              · exact escape_o51 K a b s c r w hE hs h hbig
            · by_cases h5 : c = 52 ∨ c = 53 ∨ c = 54 ∨ c = 55
              · rcases h5 with h | h | h | h
                · exact escape_o52 K a b s c r w hE hs h hbig
                · exact escape_o53 K a b s c r w hE hs h hbig
                · exact escape_o54 K a b s c r w hE hs h hbig
                · exact escape_o55 K a b s c r w hE hs h hbig
              · simp only [not_or] at hx h4 h5
                obtain ⟨x1, x2, x3, x4, x5, x6, x7, x8, x9, x10⟩ := hx
                obtain ⟨y1, y2, y3, y4⟩ := h4
                obtain ⟨z1, z2, z3, z4⟩ := h5
                exact escape_none K a b s c r w hE hs ⟨x1, x2, x3, x4, x5, x6, x7, x8, x9, x10, h3, h2, h1, y1, y2, y3, y4, z1, z2, z3, z4⟩
theorem outR_len {most n : Nat} {x : List UInt8} (h : outR most n = some x) : 0 < x.length ∧ x.length ≤ 4 := by
  unfold outR at h
  split at h
  · cases h
  · rw [Option.some.injEq] at h
    subst h
    split
    · refine ⟨?_, encodeRune_length _⟩
      unfold Lib.encodeRune Lib.encodeRuneZ
      rw [List.length_map]
      split <;> (try split) <;> (try split) <;> (try split) <;> simp
    · simp
theorem escR_len {l : List UInt8} {x : List UInt8} {k : Nat} (h : escR l = some (x, k)) : 0 < x.length ∧ x.length ≤ 4 ∧ k ≤ 9 := by
  match l, h with
  | c :: r, h =>
    rw [escR] at h
    split at h
    · simp only [Option.some.injEq, Prod.mk.injEq] at h
      rw [← h.1, ← h.2]
      simp
    · split at h
      · cases h
      · rename_i need base from_ most hk
        split at h
        · cases h
        · split at h
          · cases h
          · rename_i y hy
            simp only [Option.some.injEq, Prod.mk.injEq] at h
            have := outR_len hy
            rw [← h.1, ← h.2]
            refine ⟨this.1, this.2, ?_⟩
            unfold escK at hk
            split at hk
            · simp only [Option.some.injEq, Prod.mk.injEq] at hk; omega
            · split at hk
              · simp only [Option.some.injEq, Prod.mk.injEq] at hk; omega
              · split at hk
                · simp only [Option.some.injEq, Prod.mk.injEq] at hk; omega
                · split at hk
                  · simp only [Option.some.injEq, Prod.mk.injEq] at hk; omega
                  · cases hk
end Go.Proofs.YtchggapclmdpaaaGreatDoor
namespace Go.Proofs.YtchggapclmdpaaaGreatDoor
open Go.RowKit Go.Lib

/-- The text between quotes. -/
def unqR : Nat → List UInt8 → List UInt8 → Option (List UInt8)
  | 0, _, _ => none
  | _ + 1, [], _ => none
  | f + 1, c :: r, acc => if c = 34 then some acc else if c = 10 then none else if c = 92 then (match escR r with
      | none => none
      | some (x, k) => unqR f (r.drop k) (acc ++ x)) else unqR f r (acc ++ [c])
theorem unqR_end {f : Nat} {acc : List UInt8} : unqR f [] acc = none := by cases f <;> rfl
theorem unqR_q {f : Nat} {r acc : List UInt8} : unqR (f + 1) (34 :: r) acc = some acc := by rw [unqR, if_pos rfl]
theorem unqR_nl {f : Nat} {r acc : List UInt8} : unqR (f + 1) (10 :: r) acc = none := by rw [unqR, if_neg (by decide), if_pos rfl]
theorem unqR_bad {f : Nat} {r acc : List UInt8} (h : escR r = none) : unqR (f + 1) (92 :: r) acc = none := by rw [unqR, if_neg (by decide), if_neg (by decide), if_pos rfl, h]
theorem unqR_esc {f k : Nat} {r acc x : List UInt8} (h : escR r = some (x, k)) : unqR (f + 1) (92 :: r) acc = unqR f (r.drop k) (acc ++ x) := by rw [unqR, if_neg (by decide), if_neg (by decide), if_pos rfl, h]
theorem unqR_byte {f : Nat} {c : UInt8} {r acc : List UInt8} (h1 : c ≠ 34) (h2 : c ≠ 10) (h3 : c ≠ 92) : unqR (f + 1) (c :: r) acc = unqR f r (acc ++ [c]) := by rw [unqR, if_neg h1, if_neg h2, if_neg h3]
/-- What unquote leaves. -/
def UnqPost (R : Option (List UInt8)) (w : World) (e : Ending) (w' : World) : Prop :=
  ((∃ (t : List UInt8) (n : Int), R = some t ∧ e = .returned (.tuple #[.string ⟨t.toArray⟩, .int .i64 n, .nilIface])) ∨
    (R = none ∧ ∃ (pb : Nat) (n : Int), e = .returned (.tuple #[.string ⟨#[]⟩, .int .i64 0, .iface 301 (.pointer (some ⟨pb, 0, none⟩))]) ∧ w'.cell? ⟨pb, 0, none⟩ = some (.int .i64 n) ∧ w'.cell? ⟨pb, 1, none⟩ = some (.iface 25 (.int .u16 42)))) ∧ Below w.heap.size w w'
theorem unqPost_bad {w wr : World} {m : Int} (hb : Below w.heap.size w wr) : UnqPost none w (.returned (.tuple #[.string ⟨#[]⟩, .int .i64 0, .iface 301 (.pointer (some ⟨wr.heap.size, 0, none⟩))])) (wr.alloc (.cells #[.int .i64 m, .iface 25 (.int .u16 42)] 303)) :=
  ⟨.inr ⟨rfl, wr.heap.size, m, rfl, by simp, by simp⟩, hb.alloc hb.size _⟩
set_option maxHeartbeats 8000000 in
set_option maxRecDepth 100000 in
theorem unquote_any (K : Nat) (a b : Addr) (s : ByteArray) (r : List UInt8) (w : World) (hE : LaidE K a b w) (hs : s.data.toList = 34 :: r) (hbig : s.size ≤ 1000000) :
    Calls Tryz.prog 176 #[.string s] w (UnqPost (unqR (r.length + 1) r []) w) := by
  have hsz : s.size = r.length + 1 := by
    have : s.size = s.data.toList.length := (Array.length_toList).symm
    rw [this, hs]; simp
  obtain ⟨R, hR⟩ : ∃ R, unqR (r.length + 1) r [] = R := ⟨_, rfl⟩
  rw [hR]
  obtain ⟨i0, hi, hz0, hz1, hz2⟩ := info_parts Tryz.infoByte
  have HI := Lib.hid (show _ ∧ _ ∧ _ ∧ _ from ⟨hi, hz0, hz1, hz2⟩)
  have hne : (s.toList == []) = false := by rw [ByteArray.toList_eq, hs]; rfl
  have hpos : 0 < s.size := by omega
  have h0 := first_byte hs hpos
  have hru : ∀ w', Calls Tryz.prog 144 #[.string ⟨#[34, 39, 96]⟩, .int .i32 34] w' fun e w'' => e = .returned (.bool true) ∧ w'' = w' := fun w' => Any.strings_ContainsRune_ascii Tryz.lRune ⟨#[34, 39, 96]⟩ 34 w' (by decide) (by decide)
  have i0' : (0 : Int) < (s.size : Int) := by omega
  have hd1 : s.data.toList.drop 1 = r := by rw [hs]; rfl
  have HS := Lib.hid (show _ ∧ _ ∧ _ ∧ _ from ⟨hsz, hE, hR, hd1⟩)
  clear hs hE hsz hR hd1 hi hz0 hz1 hz2
  go_enter Tryz.func176, Tryz.ntmps176
  go_wp2_with (go_at_call 144; refine (hru _).mono ?_; rintro e w' ⟨rfl, hw⟩; obtain rfl := hw.symm)
  go_loopw [7, 8] (fun v i wr => ∃ (k f : Nat) (acc : List UInt8), 1 ≤ k ∧ k ≤ s.size + 9 ∧ i = .int .i64 k ∧ acc.length ≤ 4 * k ∧ Hid (s.size + 1 ≤ k + f ∧ unqR f (s.data.toList.drop k) acc = R ∧ wr.ownsRow w.heap.size 5 1 v acc.length (bytesV acc) ∧ Below w.heap.size w wr)) (fun _ i _ => s.size + 10 - (intOf i).toNat)
  case atStart => exact ⟨1, r.length + 1, [], Nat.le_refl _, by omega, rfl, by simp, Lib.hid ⟨by have := HS.out.1; omega, by rw [HS.out.2.2.2]; exact HS.out.2.2.1, World.ownsRow_nil _ _ _ _, Below.refl _ _⟩⟩
  case round =>
    obtain ⟨k, f, acc, hk1, hk9, rfl, hacc, HR⟩ := hrel
    have hsw := HR.out.2.2.2.size
    by_cases hlt : k < s.size
    · have j0 : (0 : Int) ≤ (k : Int) := by omega
      have j1 : (k : Int) < (s.size : Int) := by omega
      have j2 : (k : Int) + 1 ≤ (s.size : Int) := by omega
      obtain ⟨c, hc⟩ : ∃ c, s[k]'hlt = c := ⟨_, rfl⟩
      have hcl : s.data.toList[k]? = some c := by
        rw [← hc, List.getElem?_eq_getElem (by rw [Array.length_toList]; exact hlt)]
        rfl
      have hdr : s.data.toList.drop k = c :: s.data.toList.drop (k + 1) := by
        obtain ⟨g1, g2⟩ := List.getElem?_eq_some_iff.1 hcl
        rw [List.drop_eq_getElem_cons g1, g2]
      obtain ⟨f', rfl⟩ : ∃ f', f = f' + 1 := ⟨f - 1, by have := HR.out.1; omega⟩
      have hun := HR.out.2.1
      rw [hdr] at hun
      clear hdr hcl
      by_cases h34 : c = 34
      · subst h34
        rw [unqR_q] at hun
        have hconv := own_text HR.out.2.2.1
        have HU := Lib.hid (show _ ∧ _ from ⟨hun, HR.out.2.2.1⟩)
        clear hun
        go_wp2
        exact bodyPost_ret (v := .tuple #[.string ⟨acc.toArray⟩, .int .i64 ((k : Int) + 1), .nilIface]) (by simp [results, Tryz.results176, go_sem]) rfl ⟨.inl ⟨acc, _, HU.out.1.symm, rfl⟩, HR.out.2.2.2⟩
      · have q1 : ((c.toNat : Int) == 34) = false := byte_ne h34
        by_cases h10 : c = 10
        · subst h10
          rw [unqR_nl] at hun
          have HU := Lib.hid hun
          clear hun
          go_wp2
          rw [← HU.out]
          exact bodyPost_ret (v := .tuple #[.string ⟨#[]⟩, .int .i64 0, .iface 301 (.pointer (some ⟨wr.heap.size, 0, none⟩))]) (by simp [results, Tryz.results176, go_sem]; first | rfl | done) rfl (unqPost_bad HR.out.2.2.2)
        · have q2 : ((c.toNat : Int) == 10) = false := byte_ne h10
          by_cases h92 : c = 92
          · subst h92
            have hEr := HS.out.2.1.below HR.out.2.2.2 HS.out.2.1.size
            have hex := escape_any K a b (s.extract (k + 1) s.size) wr hEr (by rw [ByteArray.size_extract]; omega)
            rw [extract_data, List.take_of_length_le (by rw [Array.length_toList]; exact Nat.le_refl _)] at hex
            have HX := Lib.hid (show _ ∧ _ ∧ _ from ⟨hex, hun, hEr⟩)
            clear hex hun hEr
            go_wp2_with fail
            refine HX.out.1.mono ?_
            rintro e w1 ⟨⟨x, m, v, hx, rfl, ho1⟩ | ⟨hx, v, hv, rfl⟩, hb1⟩
            · have hxl := escR_len hx
              have hun := HX.out.2.1
              rw [unqR_esc hx, List.drop_drop] at hun
              have hs1 := hb1.size
              have hE1 := HX.out.2.2.below hb1 HX.out.2.2.size
              have cf := hE1.fin
              have hnil := fun W => is_nil a W
              obtain ⟨g, cg, rfl⟩ : ∃ g cg, v = .slice (some ⟨g, 0, none⟩) x.length cg := by
                rcases ho1.2 with ⟨_, h⟩ | ⟨g, cap, cur, h, _⟩
                · omega
                · exact ⟨g, cap, h⟩
              have hnews : ∀ (j : Nat) (u : Value), (bytesV x)[j]? = some u → w1.cell? ((⟨g, 0, none⟩ : Addr).add j) = some u := fun j u hu => by
                rw [show ((⟨g, 0, none⟩ : Addr).add j) = ⟨g, j, none⟩ by simp only [Addr.add, Nat.zero_add]; cases j <;> rfl]
                exact owns_cell ho1 rfl hu
              have honev : ∀ u ∈ bytesV x, u.oneCell' = true := fun u hu => by
                unfold bytesV at hu
                obtain ⟨q, _, rfl⟩ := List.mem_map.1 hu
                rfl
              have ho := owns_below HR.out.2.2.1 hb1
              have hbw := HR.out.2.2.2.trans (hb1.mono hsw)
              have hfl := HR.out.1
              have H1 := Lib.hid (show _ ∧ _ ∧ _ ∧ _ ∧ _ from ⟨ho, hnews, honev, hbw, hun⟩)
              have HN := Lib.hid hnil
              clear ho hnews honev hbw hun hnil ho1 hb1 hE1 hx
              obtain ⟨hi, hz0, hz1, hz2⟩ := HI.out
              have hbs := H1.out.2.2.2.1.size
              go_wp2_with (first
                | (go_at_call 188; refine (HN.out _).mono ?_; rintro e w2 ⟨rfl, hw2⟩; obtain rfl := hw2.symm)
                | (at_builtin; refine wpList_append_own _ rfl _ _ 75 rfl w.heap.size 5 i0 _ 1 1 Tryz.underlying75 hi hz0 hz1 hz2 rfl (by omega) _ acc.length (bytesV acc) rfl H1.out.1 ⟨g, 0, none⟩ x.length cg (bytesV x) rfl (by rw [bytesV_length]; omega) H1.out.2.1 H1.out.2.2.1 (by unfold maxLen; omega) (by omega) hbs ?_; intro v5 w5 ho5 hg5 _; have H5 := Lib.hid (show w5.ownsRow w.heap.size 5 1 v5 (acc ++ x).length (bytesV (acc ++ x)) ∧ Below w.heap.size w w5 from ⟨by (rw [bytesV_append, List.length_append]; exact ho5), H1.out.2.2.2.1.grown hg5 hbs (fun j hj => (H1.out.1.lt j hj).1)⟩); clear ho5 hg5))
              go_roundw
              case measure => simp [intOf]; omega
              case rel => exact ⟨k + m + 1, f', acc ++ x, by omega, by omega, by first | (simp; done) | (simp; omega), by rw [List.length_append]; omega, Lib.hid ⟨by omega, by rw [show k + m + 1 = k + 1 + m by omega]; exact H1.out.2.2.2.2, H5.out.1, H5.out.2⟩⟩
            · have hun := HX.out.2.1
              rw [unqR_bad hx] at hun
              have hE1 := HX.out.2.2.below hb1 HX.out.2.2.size
              have cf := hE1.fin
              have hbw := HR.out.2.2.2.trans (hb1.mono hsw)
              have H1 := Lib.hid (show _ ∧ _ from ⟨hbw, hun⟩)
              have HE1 := Lib.hid hE1
              clear hun hbw hb1 hE1 hx
              rcases hv with rfl | rfl
              · have hsame := fun W => is_same a W
                have HN := Lib.hid hsame
                clear hsame
                go_wp2_with (go_at_call 188; refine (HN.out _).mono ?_; rintro e w2 ⟨rfl, hw2⟩; obtain rfl := hw2.symm)
                rw [← H1.out.2]
                exact bodyPost_ret (v := .tuple #[.string ⟨#[]⟩, .int .i64 0, .iface 301 (.pointer (some ⟨w1.heap.size, 0, none⟩))]) (by simp [results, Tryz.results176, go_sem]; first | rfl | done) rfl (unqPost_bad H1.out.1)
              · obtain ⟨ca, ta, hca⟩ := HE1.out.ca
                obtain ⟨cb, tb, hcb⟩ := HE1.out.cb
                have hoth := is_other b a cb ca tb ta w1 (Ne.symm HE1.out.ne) hcb hca
                have HN := Lib.hid hoth
                clear hoth hca hcb
                go_wp2_with (go_at_call 188; refine HN.out.mono ?_; rintro e w2 ⟨rfl, hw2⟩; obtain rfl := hw2.symm)
                rw [← H1.out.2]
                exact bodyPost_ret (v := .tuple #[.string ⟨#[]⟩, .int .i64 0, .iface 301 (.pointer (some ⟨w1.heap.size, 0, none⟩))]) (by simp [results, Tryz.results176, go_sem]; first | rfl | done) rfl (unqPost_bad H1.out.1)
          · have q3 : ((c.toNat : Int) == 92) = false := byte_ne h92
            rw [unqR_byte h34 h10 h92] at hun
            have HU := Lib.hid hun
            clear hun
            obtain ⟨hi, hz0, hz1, hz2⟩ := HI.out
            have hfl := HR.out.1
            go_wp2_with (at_builtin; refine wpList_append_own _ rfl _ _ 75 rfl w.heap.size 5 i0 _ 1 1 Tryz.underlying75 hi hz0 hz1 hz2 rfl (by omega) _ acc.length (bytesV acc) rfl (HR.out.2.2.1.alloc _) ⟨wr.heap.size, 0, none⟩ 1 1 [Value.int .u8 c.toNat] rfl rfl (cells_newL wr [Value.int .u8 c.toNat] _) (by simp [Value.oneCell']) (by unfold maxLen; omega) (by omega) (by simp; omega) ?_; intro v5 w5 ho5 hg5 _; have H5 := Lib.hid (show w5.ownsRow w.heap.size 5 1 v5 (acc ++ [c]).length (bytesV (acc ++ [c])) ∧ Below w.heap.size w w5 from ⟨by (rw [bytesV_append, List.length_append]; exact ho5), (HR.out.2.2.2.alloc hsw _).grown hg5 (by simp; omega) (fun j hj => (HR.out.2.2.1.lt j hj).1)⟩); clear ho5 hg5)
            go_roundw
            case measure => simp [intOf]; omega
            case rel => exact ⟨k + 1, f', acc ++ [c], by omega, by omega, by simp, by rw [List.length_append, List.length_singleton]; omega, Lib.hid ⟨by omega, HU.out, H5.out.1, H5.out.2⟩⟩
    · have j1 : ¬ (k : Int) < (s.size : Int) := by omega
      have hun := HR.out.2.1
      rw [List.drop_eq_nil_of_le (by rw [Array.length_toList]; show s.size ≤ k; omega), unqR_end] at hun
      have HU := Lib.hid hun
      clear hun
      go_wp2
      rw [← HU.out]
      exact bodyPost_ret (v := .tuple #[.string ⟨#[]⟩, .int .i64 0, .iface 301 (.pointer (some ⟨wr.heap.size, 0, none⟩))]) (by simp [results, Tryz.results176, go_sem]; first | rfl | done) rfl (unqPost_bad HR.out.2.2.2)
/-- What Unquote leaves. -/
def Unq2Post (R : Option (List UInt8)) (w : World) (e : Ending) (w' : World) : Prop :=
  ((∃ (t : List UInt8) (n : Int), R = some t ∧ e = .returned (.tuple #[.string ⟨t.toArray⟩, .int .u16 0, .int .i64 n])) ∨ (R = none ∧ ∃ n : Int, e = .returned (.tuple #[.string ⟨#[]⟩, .int .u16 42, .int .i64 n]))) ∧ Below w.heap.size w w'
set_option maxHeartbeats 2000000 in
set_option maxRecDepth 100000 in
theorem unquote2_any (K : Nat) (a b : Addr) (s : ByteArray) (r : List UInt8) (w : World) (hE : LaidE K a b w) (hs : s.data.toList = 34 :: r) (hbig : s.size ≤ 1000000) :
    Calls Tryz.prog 159 #[.string s] w (Unq2Post (unqR (r.length + 1) r []) w) := by
  have hc := unquote_any K a b s r w hE hs hbig
  have HC := Lib.hid (show _ ∧ _ from ⟨hc, hE⟩)
  clear hc hs hE
  go_enter Tryz.func159, Tryz.ntmps159
  go_wp2_with fail
  refine HC.out.1.mono ?_
  rintro e w1 ⟨⟨t, n, hR, rfl⟩ | ⟨hR, pb, n, rfl, hp0, hp1⟩, hb1⟩
  · have HB := Lib.hid (show _ ∧ _ from ⟨hb1, hR⟩)
    clear hb1 hR
    go_wp2
    exact bodyPost_ret (v := .tuple #[.string ⟨t.toArray⟩, .int .u16 0, .int .i64 n]) (by simp [results, Tryz.results159, go_sem]) rfl ⟨.inl ⟨t, n, HB.out.2, rfl⟩, HB.out.1⟩
  · have hE1 := HC.out.2.below hb1 HC.out.2.size
    have ht := told_any K a b pb 42 w1 hE1 hp1
    have HB := Lib.hid (show _ ∧ _ ∧ _ ∧ _ ∧ _ from ⟨hb1, hR, ht, hE1, hp0⟩)
    clear hb1 hR ht hE1 hp0 hp1
    go_wp2_with (first
      | (go_at_call 177; refine HB.out.2.2.1.mono ?_; rintro e w2 ⟨rfl, hb2⟩; have H2 := Lib.hid hb2; clear hb2)
      | (go_at_call 178; refine (place_any K a b pb n w2 (HB.out.2.2.2.1.below H2.out HB.out.2.2.2.1.size) ((H2.out.cell (World.block_lt_of_cell? _ _ HB.out.2.2.2.2)).trans HB.out.2.2.2.2)).mono ?_; rintro e w3 ⟨rfl, hb3⟩; have H3 := Lib.hid (HB.out.1.trans ((H2.out.trans (hb3.mono H2.out.size)).mono HB.out.1.size)); clear hb3))
    exact bodyPost_ret (v := .tuple #[.string ⟨#[]⟩, .int .u16 42, .int .i64 n]) (by simp [results, Tryz.results159, go_sem]) rfl ⟨.inr ⟨HB.out.2.1, n, rfl⟩, H3.out⟩
end Go.Proofs.YtchggapclmdpaaaGreatDoor
