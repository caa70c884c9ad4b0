/- The Go types as structures, how they lie as data. Printed by a program of this work out of the translation's table. -/
import Derived.Test.YtpgnhajindbhlaaFwX
import Derived.Test.YtpgnhajindbhlaaFwTy
set_option linter.unusedSimpArgs false
namespace Go.Fw
open Go.RowKit Go.Proofs Go.Proofs.Ytpgnhajindbhlaa
attribute [go_sem] dI dB dS' dL
structure Period where
  From : Int
  To : Int
  deriving DecidableEq
@[go_sem] def Period.d (x : Period) : DVal := .agg [.v (.int .i64 x.From), .v (.int .i64 x.To)]
@[go_sem] theorem Period.al (l : List Period) : allLen 2 (l.map Period.d) = true := allLen_map (f := Period.d) (n := 2) (fun _ => rfl) l
def Period.z : Period := ⟨(0 : Int), (0 : Int)⟩
def Period.B (x : Period) : Prop := BInt .i64 x.From ∧ BInt .i64 x.To
def Period.Z (x : Period) : Nat := (ZInt x.From + ZInt x.To) + 1
theorem Period.o : Opens Try.prog 24 Period.d Period.B Period.Z := opens_struct (fun y : (Int × Int) => (⟨y.1, y.2⟩ : Period)) (fun _ => rfl) (fun _ h => h) (fun _ => rfl) Try.underlying24 rfl (by kernel_rfl) (by kernel_rfl) (fun n => (row_cons ((opens_int Try.underlying3) n) (row_one ((opens_int Try.underlying3) n))))
structure Attendee where
  Address : ByteArray
  Answer : Int
  Offer : Period
  deriving DecidableEq
@[go_sem] def Attendee.d (x : Attendee) : DVal := .agg [.v (.string x.Address), .v (.int .i64 x.Answer), .v (.int .i64 x.Offer.From), .v (.int .i64 x.Offer.To)]
@[go_sem] theorem Attendee.al (l : List Attendee) : allLen 4 (l.map Attendee.d) = true := allLen_map (f := Attendee.d) (n := 4) (fun _ => rfl) l
def Attendee.z : Attendee := ⟨ByteArray.empty, (0 : Int), Period.z⟩
def Attendee.B (x : Attendee) : Prop := BStr x.Address ∧ BInt .i64 x.Answer ∧ Period.B x.Offer
def Attendee.Z (x : Attendee) : Nat := (ZStr x.Address + (ZInt x.Answer + Period.Z x.Offer)) + 1
theorem Attendee.o : Opens Try.prog 37 Attendee.d Attendee.B Attendee.Z := opens_struct (fun y : (ByteArray × (Int × Period)) => (⟨y.1, y.2.1, y.2.2⟩ : Attendee)) (fun _ => rfl) (fun _ h => h) (fun _ => rfl) Try.underlying37 rfl (by kernel_rfl) (by kernel_rfl) (fun n => (row_cons ((opens_str Try.underlying9) n) (row_cons ((opens_int Try.underlying3) n) (row_one (Period.o n)))))
structure Meeting where
  Organizer : ByteArray
  Guests : List Attendee
  Round : Int
  Proposed : Period
  Cancelled : Bool
  deriving DecidableEq
@[go_sem] def Meeting.d (x : Meeting) : DVal := .agg [.v (.string x.Organizer), .list (x.Guests.map Attendee.d), .v (.int .i64 x.Round), .v (.int .i64 x.Proposed.From), .v (.int .i64 x.Proposed.To), .v (.bool x.Cancelled)]
@[go_sem] theorem Meeting.al (l : List Meeting) : allLen 6 (l.map Meeting.d) = true := allLen_map (f := Meeting.d) (n := 6) (fun _ => rfl) l
def Meeting.z : Meeting := ⟨ByteArray.empty, [], (0 : Int), Period.z, false⟩
def Meeting.B (x : Meeting) : Prop := BStr x.Organizer ∧ BSlice 40 Attendee.B x.Guests ∧ BInt .i64 x.Round ∧ Period.B x.Proposed ∧ BBool x.Cancelled
def Meeting.Z (x : Meeting) : Nat := (ZStr x.Organizer + (ZSlice Attendee.Z x.Guests + (ZInt x.Round + (Period.Z x.Proposed + ZBool x.Cancelled)))) + 1
theorem Meeting.o : Opens Try.prog 26 Meeting.d Meeting.B Meeting.Z := opens_struct (fun y : (ByteArray × ((List Attendee) × (Int × (Period × Bool)))) => (⟨y.1, y.2.1, y.2.2.1, y.2.2.2.1, y.2.2.2.2⟩ : Meeting)) (fun _ => rfl) (fun _ h => h) (fun _ => rfl) Try.underlying26 rfl (by kernel_rfl) (by kernel_rfl) (fun n => (row_cons ((opens_str Try.underlying9) n) (row_cons ((opens_slice (κ := Attendee.d) (B := Attendee.B) (Z := Attendee.Z) (bytes := 40) (sz := 4) Try.underlying22 (by kernel_rfl) (by kernel_rfl) (by decide) (fun _ => rfl) Attendee.z Attendee.o) n) (row_cons ((opens_int Try.underlying3) n) (row_cons (Period.o n) (row_one ((opens_bool Try.underlying4) n)))))))
structure Fault where
  Code : Int
  Index : Int
  deriving DecidableEq
@[go_sem] def Fault.d (x : Fault) : DVal := .agg [.v (.int .i64 x.Code), .v (.int .i64 x.Index)]
@[go_sem] theorem Fault.al (l : List Fault) : allLen 2 (l.map Fault.d) = true := allLen_map (f := Fault.d) (n := 2) (fun _ => rfl) l
def Fault.z : Fault := ⟨(0 : Int), (0 : Int)⟩
def Fault.B (x : Fault) : Prop := BInt .i64 x.Code ∧ BInt .i64 x.Index
def Fault.Z (x : Fault) : Nat := (ZInt x.Code + ZInt x.Index) + 1
theorem Fault.o : Opens Try.prog 28 Fault.d Fault.B Fault.Z := opens_struct (fun y : (Int × Int) => (⟨y.1, y.2⟩ : Fault)) (fun _ => rfl) (fun _ h => h) (fun _ => rfl) Try.underlying28 rfl (by kernel_rfl) (by kernel_rfl) (fun n => (row_cons ((opens_int Try.underlying3) n) (row_one ((opens_int Try.underlying3) n))))
structure Turn where
  Month : Int
  Week : Int
  Weekday : Int
  Minute : Int
  deriving DecidableEq
@[go_sem] def Turn.d (x : Turn) : DVal := .agg [.v (.int .i64 x.Month), .v (.int .i64 x.Week), .v (.int .i64 x.Weekday), .v (.int .i64 x.Minute)]
@[go_sem] theorem Turn.al (l : List Turn) : allLen 4 (l.map Turn.d) = true := allLen_map (f := Turn.d) (n := 4) (fun _ => rfl) l
def Turn.z : Turn := ⟨(0 : Int), (0 : Int), (0 : Int), (0 : Int)⟩
def Turn.B (x : Turn) : Prop := BInt .i64 x.Month ∧ BInt .i64 x.Week ∧ BInt .i64 x.Weekday ∧ BInt .i64 x.Minute
def Turn.Z (x : Turn) : Nat := (ZInt x.Month + (ZInt x.Week + (ZInt x.Weekday + ZInt x.Minute))) + 1
theorem Turn.o : Opens Try.prog 71 Turn.d Turn.B Turn.Z := opens_struct (fun y : (Int × (Int × (Int × Int))) => (⟨y.1, y.2.1, y.2.2.1, y.2.2.2⟩ : Turn)) (fun _ => rfl) (fun _ h => h) (fun _ => rfl) Try.underlying71 rfl (by kernel_rfl) (by kernel_rfl) (fun n => (row_cons ((opens_int Try.underlying3) n) (row_cons ((opens_int Try.underlying3) n) (row_cons ((opens_int Try.underlying3) n) (row_one ((opens_int Try.underlying3) n))))))
structure Zone where
  Name : ByteArray
  Standard : Int
  Summer : Int
  Begin : Turn
  End : Turn
  deriving DecidableEq
@[go_sem] def Zone.d (x : Zone) : DVal := .agg [.v (.string x.Name), .v (.int .i64 x.Standard), .v (.int .i64 x.Summer), .v (.int .i64 x.Begin.Month), .v (.int .i64 x.Begin.Week), .v (.int .i64 x.Begin.Weekday), .v (.int .i64 x.Begin.Minute), .v (.int .i64 x.End.Month), .v (.int .i64 x.End.Week), .v (.int .i64 x.End.Weekday), .v (.int .i64 x.End.Minute)]
@[go_sem] theorem Zone.al (l : List Zone) : allLen 11 (l.map Zone.d) = true := allLen_map (f := Zone.d) (n := 11) (fun _ => rfl) l
def Zone.z : Zone := ⟨ByteArray.empty, (0 : Int), (0 : Int), Turn.z, Turn.z⟩
def Zone.B (x : Zone) : Prop := BStr x.Name ∧ BInt .i64 x.Standard ∧ BInt .i64 x.Summer ∧ Turn.B x.Begin ∧ Turn.B x.End
def Zone.Z (x : Zone) : Nat := (ZStr x.Name + (ZInt x.Standard + (ZInt x.Summer + (Turn.Z x.Begin + Turn.Z x.End)))) + 1
theorem Zone.o : Opens Try.prog 73 Zone.d Zone.B Zone.Z := opens_struct (fun y : (ByteArray × (Int × (Int × (Turn × Turn)))) => (⟨y.1, y.2.1, y.2.2.1, y.2.2.2.1, y.2.2.2.2⟩ : Zone)) (fun _ => rfl) (fun _ h => h) (fun _ => rfl) Try.underlying73 rfl (by kernel_rfl) (by kernel_rfl) (fun n => (row_cons ((opens_str Try.underlying9) n) (row_cons ((opens_int Try.underlying3) n) (row_cons ((opens_int Try.underlying3) n) (row_cons (Turn.o n) (row_one (Turn.o n)))))))
structure Date where
  Year : Int
  Month : Int
  Day : Int
  Hour : Int
  Minute : Int
  Second : Int
  Zone : Int
  deriving DecidableEq
@[go_sem] def Date.d (x : Date) : DVal := .agg [.v (.int .i64 x.Year), .v (.int .i64 x.Month), .v (.int .i64 x.Day), .v (.int .i64 x.Hour), .v (.int .i64 x.Minute), .v (.int .i64 x.Second), .v (.int .i64 x.Zone)]
@[go_sem] theorem Date.al (l : List Date) : allLen 7 (l.map Date.d) = true := allLen_map (f := Date.d) (n := 7) (fun _ => rfl) l
def Date.z : Date := ⟨(0 : Int), (0 : Int), (0 : Int), (0 : Int), (0 : Int), (0 : Int), (0 : Int)⟩
def Date.B (x : Date) : Prop := BInt .i64 x.Year ∧ BInt .i64 x.Month ∧ BInt .i64 x.Day ∧ BInt .i64 x.Hour ∧ BInt .i64 x.Minute ∧ BInt .i64 x.Second ∧ BInt .i64 x.Zone
def Date.Z (x : Date) : Nat := (ZInt x.Year + (ZInt x.Month + (ZInt x.Day + (ZInt x.Hour + (ZInt x.Minute + (ZInt x.Second + ZInt x.Zone)))))) + 1
theorem Date.o : Opens Try.prog 76 Date.d Date.B Date.Z := opens_struct (fun y : (Int × (Int × (Int × (Int × (Int × (Int × Int)))))) => (⟨y.1, y.2.1, y.2.2.1, y.2.2.2.1, y.2.2.2.2.1, y.2.2.2.2.2.1, y.2.2.2.2.2.2⟩ : Date)) (fun _ => rfl) (fun _ h => h) (fun _ => rfl) Try.underlying76 rfl (by kernel_rfl) (by kernel_rfl) (fun n => (row_cons ((opens_int Try.underlying3) n) (row_cons ((opens_int Try.underlying3) n) (row_cons ((opens_int Try.underlying3) n) (row_cons ((opens_int Try.underlying3) n) (row_cons ((opens_int Try.underlying3) n) (row_cons ((opens_int Try.underlying3) n) (row_one ((opens_int Try.underlying3) n)))))))))
structure Recurrence where
  Frequency : Int
  Every : Int
  Count : Int
  Until : Int
  HasUntil : Bool
  Weekdays : List Int
  Except : List Int
  Add : List Int
  deriving DecidableEq
@[go_sem] def Recurrence.d (x : Recurrence) : DVal := .agg [.v (.int .i64 x.Frequency), .v (.int .i64 x.Every), .v (.int .i64 x.Count), .v (.int .i64 x.Until), .v (.bool x.HasUntil), .list (x.Weekdays.map (dI .i64)), .list (x.Except.map (dI .i64)), .list (x.Add.map (dI .i64))]
@[go_sem] theorem Recurrence.al (l : List Recurrence) : allLen 8 (l.map Recurrence.d) = true := allLen_map (f := Recurrence.d) (n := 8) (fun _ => rfl) l
def Recurrence.z : Recurrence := ⟨(0 : Int), (0 : Int), (0 : Int), (0 : Int), false, [], [], []⟩
def Recurrence.B (x : Recurrence) : Prop := BInt .i64 x.Frequency ∧ BInt .i64 x.Every ∧ BInt .i64 x.Count ∧ BInt .i64 x.Until ∧ BBool x.HasUntil ∧ BSlice 8 (BInt .i64) x.Weekdays ∧ BSlice 8 (BInt .i64) x.Except ∧ BSlice 8 (BInt .i64) x.Add
def Recurrence.Z (x : Recurrence) : Nat := (ZInt x.Frequency + (ZInt x.Every + (ZInt x.Count + (ZInt x.Until + (ZBool x.HasUntil + (ZSlice ZInt x.Weekdays + (ZSlice ZInt x.Except + ZSlice ZInt x.Add))))))) + 1
theorem Recurrence.o : Opens Try.prog 79 Recurrence.d Recurrence.B Recurrence.Z := opens_struct (fun y : (Int × (Int × (Int × (Int × (Bool × ((List Int) × ((List Int) × (List Int)))))))) => (⟨y.1, y.2.1, y.2.2.1, y.2.2.2.1, y.2.2.2.2.1, y.2.2.2.2.2.1, y.2.2.2.2.2.2.1, y.2.2.2.2.2.2.2⟩ : Recurrence)) (fun _ => rfl) (fun _ h => h) (fun _ => rfl) Try.underlying79 rfl (by kernel_rfl) (by kernel_rfl) (fun n => (row_cons ((opens_int Try.underlying3) n) (row_cons ((opens_int Try.underlying3) n) (row_cons ((opens_int Try.underlying3) n) (row_cons ((opens_int Try.underlying3) n) (row_cons ((opens_bool Try.underlying4) n) (row_cons ((opens_slice (κ := (dI .i64)) (B := (BInt .i64)) (Z := ZInt) (bytes := 8) (sz := 1) Try.underlying77 (by kernel_rfl) (by kernel_rfl) (by decide) (fun _ => rfl) (0 : Int) (opens_int Try.underlying3)) n) (row_cons ((opens_slice (κ := (dI .i64)) (B := (BInt .i64)) (Z := ZInt) (bytes := 8) (sz := 1) Try.underlying77 (by kernel_rfl) (by kernel_rfl) (by decide) (fun _ => rfl) (0 : Int) (opens_int Try.underlying3)) n) (row_one ((opens_slice (κ := (dI .i64)) (B := (BInt .i64)) (Z := ZInt) (bytes := 8) (sz := 1) Try.underlying77 (by kernel_rfl) (by kernel_rfl) (by decide) (fun _ => rfl) (0 : Int) (opens_int Try.underlying3)) n))))))))))
structure Guest where
  Address : ByteArray
  State : Int
  deriving DecidableEq
@[go_sem] def Guest.d (x : Guest) : DVal := .agg [.v (.string x.Address), .v (.int .i64 x.State)]
@[go_sem] theorem Guest.al (l : List Guest) : allLen 2 (l.map Guest.d) = true := allLen_map (f := Guest.d) (n := 2) (fun _ => rfl) l
def Guest.z : Guest := ⟨ByteArray.empty, (0 : Int)⟩
def Guest.B (x : Guest) : Prop := BStr x.Address ∧ BInt .i64 x.State
def Guest.Z (x : Guest) : Nat := (ZStr x.Address + ZInt x.State) + 1
theorem Guest.o : Opens Try.prog 184 Guest.d Guest.B Guest.Z := opens_struct (fun y : (ByteArray × Int) => (⟨y.1, y.2⟩ : Guest)) (fun _ => rfl) (fun _ h => h) (fun _ => rfl) Try.underlying184 rfl (by kernel_rfl) (by kernel_rfl) (fun n => (row_cons ((opens_str Try.underlying9) n) (row_one ((opens_int Try.underlying3) n))))
structure Event where
  Uid : ByteArray
  Method : Int
  Sequence : Int
  Summary : ByteArray
  Place : ByteArray
  Organizer : ByteArray
  Guests : List Guest
  Zone : ByteArray
  Start : Date
  Length : Int
  Repeat : Recurrence
  deriving DecidableEq
@[go_sem] def Event.d (x : Event) : DVal := .agg [.v (.string x.Uid), .v (.int .i64 x.Method), .v (.int .i64 x.Sequence), .v (.string x.Summary), .v (.string x.Place), .v (.string x.Organizer), .list (x.Guests.map Guest.d), .v (.string x.Zone), .v (.int .i64 x.Start.Year), .v (.int .i64 x.Start.Month), .v (.int .i64 x.Start.Day), .v (.int .i64 x.Start.Hour), .v (.int .i64 x.Start.Minute), .v (.int .i64 x.Start.Second), .v (.int .i64 x.Start.Zone), .v (.int .i64 x.Length), .v (.int .i64 x.Repeat.Frequency), .v (.int .i64 x.Repeat.Every), .v (.int .i64 x.Repeat.Count), .v (.int .i64 x.Repeat.Until), .v (.bool x.Repeat.HasUntil), .list (x.Repeat.Weekdays.map (dI .i64)), .list (x.Repeat.Except.map (dI .i64)), .list (x.Repeat.Add.map (dI .i64))]
@[go_sem] theorem Event.al (l : List Event) : allLen 24 (l.map Event.d) = true := allLen_map (f := Event.d) (n := 24) (fun _ => rfl) l
def Event.z : Event := ⟨ByteArray.empty, (0 : Int), (0 : Int), ByteArray.empty, ByteArray.empty, ByteArray.empty, [], ByteArray.empty, Date.z, (0 : Int), Recurrence.z⟩
def Event.B (x : Event) : Prop := BStr x.Uid ∧ BInt .i64 x.Method ∧ BInt .i64 x.Sequence ∧ BStr x.Summary ∧ BStr x.Place ∧ BStr x.Organizer ∧ BSlice 24 Guest.B x.Guests ∧ BStr x.Zone ∧ Date.B x.Start ∧ BInt .i64 x.Length ∧ Recurrence.B x.Repeat
def Event.Z (x : Event) : Nat := (ZStr x.Uid + (ZInt x.Method + (ZInt x.Sequence + (ZStr x.Summary + (ZStr x.Place + (ZStr x.Organizer + (ZSlice Guest.Z x.Guests + (ZStr x.Zone + (Date.Z x.Start + (ZInt x.Length + Recurrence.Z x.Repeat)))))))))) + 1
theorem Event.o : Opens Try.prog 81 Event.d Event.B Event.Z := opens_struct (fun y : (ByteArray × (Int × (Int × (ByteArray × (ByteArray × (ByteArray × ((List Guest) × (ByteArray × (Date × (Int × Recurrence)))))))))) => (⟨y.1, y.2.1, y.2.2.1, y.2.2.2.1, y.2.2.2.2.1, y.2.2.2.2.2.1, y.2.2.2.2.2.2.1, y.2.2.2.2.2.2.2.1, y.2.2.2.2.2.2.2.2.1, y.2.2.2.2.2.2.2.2.2.1, y.2.2.2.2.2.2.2.2.2.2⟩ : Event)) (fun _ => rfl) (fun _ h => h) (fun _ => rfl) Try.underlying81 rfl (by kernel_rfl) (by kernel_rfl) (fun n => (row_cons ((opens_str Try.underlying9) n) (row_cons ((opens_int Try.underlying3) n) (row_cons ((opens_int Try.underlying3) n) (row_cons ((opens_str Try.underlying9) n) (row_cons ((opens_str Try.underlying9) n) (row_cons ((opens_str Try.underlying9) n) (row_cons ((opens_slice (κ := Guest.d) (B := Guest.B) (Z := Guest.Z) (bytes := 24) (sz := 2) Try.underlying74 (by kernel_rfl) (by kernel_rfl) (by decide) (fun _ => rfl) Guest.z Guest.o) n) (row_cons ((opens_str Try.underlying9) n) (row_cons (Date.o n) (row_cons ((opens_int Try.underlying3) n) (row_one (Recurrence.o n)))))))))))))
@[go_sem] theorem eqB4 (x y : Operand) (c d : Bool) : binV Try.prog .eql 4 x y (.bool c) (.bool d) = some (.bool (beqB c d)) := binV_beql Try.prog 4 x y Try.underlying4 c d
@[go_sem] theorem neB4 (x y : Operand) (c d : Bool) : binV Try.prog .neq 4 x y (.bool c) (.bool d) = some (.bool (!beqB c d)) := binV_bneq Try.prog 4 x y Try.underlying4 c d
@[go_sem] theorem lenS9 (ty : TypeId) (cs : Array Bool) (s : ByteArray) : builtinV Try.prog .len #[9] ty cs [.string s] = some (.int .i64 s.size) := len_str Try.underlying9 ty cs s
@[go_sem] theorem lenS10 (ty : TypeId) (cs : Array Bool) (s : ByteArray) : builtinV Try.prog .len #[10] ty cs [.string s] = some (.int .i64 s.size) := len_str Try.underlying10 ty cs s
@[go_sem] theorem lenS11 (ty : TypeId) (cs : Array Bool) (s : ByteArray) : builtinV Try.prog .len #[11] ty cs [.string s] = some (.int .i64 s.size) := len_str Try.underlying11 ty cs s
theorem fo24 : Try.prog.underlying 24 = some (.struct (Try.prog.fieldsOf 24)) := by kernel_rfl
theorem sh24 : Try.prog.stoodInHeld 24 = false := by kernel_rfl
@[go_sem] theorem eqS24 (x y : Operand) (a0 : Int) (a1 : Int) (b0 : Int) (b1 : Int) : binV Try.prog .eql 24 x y (.agg ⟨[.int .i64 a0, .int .i64 a1]⟩) (.agg ⟨[.int .i64 b0, .int .i64 b1]⟩) = some (.bool (ieq a0 b0 && ieq a1 b1)) := pr_of fun w => by
  have hg : Try.prog.eqGuardType Try.prog.depth 24 = false := by kernel_rfl
  simp only [binS, Sem.run_bind, run_eqGuard_agg _ _ _ _ _ _ _ hg, Result.andThen_ok, run_eql_struct]
  rw [run_equalIn_agg _ _ _ _ _ fo24 sh24]
  simp [Program.fieldsOf, Try.underlying24, Try.underlying3, Op.eqFields, Go.Fw.toList_beq, go_sem, fo24]
  by_cases h0 : a0 = b0 <;> by_cases h1 : a1 = b1 <;> simp [ieq, seqB, beqB, h0, h1]
@[go_sem] theorem neS24 (x y : Operand) (a0 : Int) (a1 : Int) (b0 : Int) (b1 : Int) : binV Try.prog .neq 24 x y (.agg ⟨[.int .i64 a0, .int .i64 a1]⟩) (.agg ⟨[.int .i64 b0, .int .i64 b1]⟩) = some (.bool (!(ieq a0 b0 && ieq a1 b1))) := pr_of fun w => by
  have hg : Try.prog.eqGuardType Try.prog.depth 24 = false := by kernel_rfl
  simp only [binS, Sem.run_bind, run_eqGuard_agg _ _ _ _ _ _ _ hg, Result.andThen_ok, run_neq_struct]
  rw [run_equalIn_agg _ _ _ _ _ fo24 sh24]
  simp [Program.fieldsOf, Try.underlying24, Try.underlying3, Op.eqFields, Go.Fw.toList_beq, go_sem, fo24]
  by_cases h0 : a0 = b0 <;> by_cases h1 : a1 = b1 <;> simp [ieq, seqB, beqB, h0, h1]
theorem fo28 : Try.prog.underlying 28 = some (.struct (Try.prog.fieldsOf 28)) := by kernel_rfl
theorem sh28 : Try.prog.stoodInHeld 28 = false := by kernel_rfl
@[go_sem] theorem eqS28 (x y : Operand) (a0 : Int) (a1 : Int) (b0 : Int) (b1 : Int) : binV Try.prog .eql 28 x y (.agg ⟨[.int .i64 a0, .int .i64 a1]⟩) (.agg ⟨[.int .i64 b0, .int .i64 b1]⟩) = some (.bool (ieq a0 b0 && ieq a1 b1)) := pr_of fun w => by
  have hg : Try.prog.eqGuardType Try.prog.depth 28 = false := by kernel_rfl
  simp only [binS, Sem.run_bind, run_eqGuard_agg _ _ _ _ _ _ _ hg, Result.andThen_ok, run_eql_struct]
  rw [run_equalIn_agg _ _ _ _ _ fo28 sh28]
  simp [Program.fieldsOf, Try.underlying28, Try.underlying3, Op.eqFields, Go.Fw.toList_beq, go_sem, fo28]
  by_cases h0 : a0 = b0 <;> by_cases h1 : a1 = b1 <;> simp [ieq, seqB, beqB, h0, h1]
@[go_sem] theorem neS28 (x y : Operand) (a0 : Int) (a1 : Int) (b0 : Int) (b1 : Int) : binV Try.prog .neq 28 x y (.agg ⟨[.int .i64 a0, .int .i64 a1]⟩) (.agg ⟨[.int .i64 b0, .int .i64 b1]⟩) = some (.bool (!(ieq a0 b0 && ieq a1 b1))) := pr_of fun w => by
  have hg : Try.prog.eqGuardType Try.prog.depth 28 = false := by kernel_rfl
  simp only [binS, Sem.run_bind, run_eqGuard_agg _ _ _ _ _ _ _ hg, Result.andThen_ok, run_neq_struct]
  rw [run_equalIn_agg _ _ _ _ _ fo28 sh28]
  simp [Program.fieldsOf, Try.underlying28, Try.underlying3, Op.eqFields, Go.Fw.toList_beq, go_sem, fo28]
  by_cases h0 : a0 = b0 <;> by_cases h1 : a1 = b1 <;> simp [ieq, seqB, beqB, h0, h1]
theorem fo37 : Try.prog.underlying 37 = some (.struct (Try.prog.fieldsOf 37)) := by kernel_rfl
theorem sh37 : Try.prog.stoodInHeld 37 = false := by kernel_rfl
@[go_sem] theorem eqS37 (x y : Operand) (a0 : ByteArray) (a1 : Int) (a2 : Int) (a3 : Int) (b0 : ByteArray) (b1 : Int) (b2 : Int) (b3 : Int) : binV Try.prog .eql 37 x y (.agg ⟨[.string a0, .int .i64 a1, .int .i64 a2, .int .i64 a3]⟩) (.agg ⟨[.string b0, .int .i64 b1, .int .i64 b2, .int .i64 b3]⟩) = some (.bool (seqB a0 b0 && ieq a1 b1 && ieq a2 b2 && ieq a3 b3)) := pr_of fun w => by
  have hg : Try.prog.eqGuardType Try.prog.depth 37 = false := by kernel_rfl
  simp only [binS, Sem.run_bind, run_eqGuard_agg _ _ _ _ _ _ _ hg, Result.andThen_ok, run_eql_struct]
  rw [run_equalIn_agg _ _ _ _ _ fo37 sh37]
  simp [Program.fieldsOf, Try.underlying24, Try.underlying3, Try.underlying37, Try.underlying9, Op.eqFields, Go.Fw.toList_beq, go_sem, run_equalIn_agg _ _ _ _ _ fo24 sh24]
  by_cases h0 : a0 = b0 <;> by_cases h1 : a1 = b1 <;> by_cases h2 : a2 = b2 <;> by_cases h3 : a3 = b3 <;> simp [ieq, seqB, beqB, h0, h1, h2, h3]
@[go_sem] theorem neS37 (x y : Operand) (a0 : ByteArray) (a1 : Int) (a2 : Int) (a3 : Int) (b0 : ByteArray) (b1 : Int) (b2 : Int) (b3 : Int) : binV Try.prog .neq 37 x y (.agg ⟨[.string a0, .int .i64 a1, .int .i64 a2, .int .i64 a3]⟩) (.agg ⟨[.string b0, .int .i64 b1, .int .i64 b2, .int .i64 b3]⟩) = some (.bool (!(seqB a0 b0 && ieq a1 b1 && ieq a2 b2 && ieq a3 b3))) := pr_of fun w => by
  have hg : Try.prog.eqGuardType Try.prog.depth 37 = false := by kernel_rfl
  simp only [binS, Sem.run_bind, run_eqGuard_agg _ _ _ _ _ _ _ hg, Result.andThen_ok, run_neq_struct]
  rw [run_equalIn_agg _ _ _ _ _ fo37 sh37]
  simp [Program.fieldsOf, Try.underlying24, Try.underlying3, Try.underlying37, Try.underlying9, Op.eqFields, Go.Fw.toList_beq, go_sem, run_equalIn_agg _ _ _ _ _ fo24 sh24]
  by_cases h0 : a0 = b0 <;> by_cases h1 : a1 = b1 <;> by_cases h2 : a2 = b2 <;> by_cases h3 : a3 = b3 <;> simp [ieq, seqB, beqB, h0, h1, h2, h3]
theorem fo71 : Try.prog.underlying 71 = some (.struct (Try.prog.fieldsOf 71)) := by kernel_rfl
theorem sh71 : Try.prog.stoodInHeld 71 = false := by kernel_rfl
@[go_sem] theorem eqS71 (x y : Operand) (a0 : Int) (a1 : Int) (a2 : Int) (a3 : Int) (b0 : Int) (b1 : Int) (b2 : Int) (b3 : Int) : binV Try.prog .eql 71 x y (.agg ⟨[.int .i64 a0, .int .i64 a1, .int .i64 a2, .int .i64 a3]⟩) (.agg ⟨[.int .i64 b0, .int .i64 b1, .int .i64 b2, .int .i64 b3]⟩) = some (.bool (ieq a0 b0 && ieq a1 b1 && ieq a2 b2 && ieq a3 b3)) := pr_of fun w => by
  have hg : Try.prog.eqGuardType Try.prog.depth 71 = false := by kernel_rfl
  simp only [binS, Sem.run_bind, run_eqGuard_agg _ _ _ _ _ _ _ hg, Result.andThen_ok, run_eql_struct]
  rw [run_equalIn_agg _ _ _ _ _ fo71 sh71]
  simp [Program.fieldsOf, Try.underlying3, Try.underlying71, Op.eqFields, Go.Fw.toList_beq, go_sem, fo71]
  by_cases h0 : a0 = b0 <;> by_cases h1 : a1 = b1 <;> by_cases h2 : a2 = b2 <;> by_cases h3 : a3 = b3 <;> simp [ieq, seqB, beqB, h0, h1, h2, h3]
@[go_sem] theorem neS71 (x y : Operand) (a0 : Int) (a1 : Int) (a2 : Int) (a3 : Int) (b0 : Int) (b1 : Int) (b2 : Int) (b3 : Int) : binV Try.prog .neq 71 x y (.agg ⟨[.int .i64 a0, .int .i64 a1, .int .i64 a2, .int .i64 a3]⟩) (.agg ⟨[.int .i64 b0, .int .i64 b1, .int .i64 b2, .int .i64 b3]⟩) = some (.bool (!(ieq a0 b0 && ieq a1 b1 && ieq a2 b2 && ieq a3 b3))) := pr_of fun w => by
  have hg : Try.prog.eqGuardType Try.prog.depth 71 = false := by kernel_rfl
  simp only [binS, Sem.run_bind, run_eqGuard_agg _ _ _ _ _ _ _ hg, Result.andThen_ok, run_neq_struct]
  rw [run_equalIn_agg _ _ _ _ _ fo71 sh71]
  simp [Program.fieldsOf, Try.underlying3, Try.underlying71, Op.eqFields, Go.Fw.toList_beq, go_sem, fo71]
  by_cases h0 : a0 = b0 <;> by_cases h1 : a1 = b1 <;> by_cases h2 : a2 = b2 <;> by_cases h3 : a3 = b3 <;> simp [ieq, seqB, beqB, h0, h1, h2, h3]
theorem fo73 : Try.prog.underlying 73 = some (.struct (Try.prog.fieldsOf 73)) := by kernel_rfl
theorem sh73 : Try.prog.stoodInHeld 73 = false := by kernel_rfl
@[go_sem] theorem eqS73 (x y : Operand) (a0 : ByteArray) (a1 : Int) (a2 : Int) (a3 : Int) (a4 : Int) (a5 : Int) (a6 : Int) (a7 : Int) (a8 : Int) (a9 : Int) (a10 : Int) (b0 : ByteArray) (b1 : Int) (b2 : Int) (b3 : Int) (b4 : Int) (b5 : Int) (b6 : Int) (b7 : Int) (b8 : Int) (b9 : Int) (b10 : Int) : binV Try.prog .eql 73 x y (.agg ⟨[.string a0, .int .i64 a1, .int .i64 a2, .int .i64 a3, .int .i64 a4, .int .i64 a5, .int .i64 a6, .int .i64 a7, .int .i64 a8, .int .i64 a9, .int .i64 a10]⟩) (.agg ⟨[.string b0, .int .i64 b1, .int .i64 b2, .int .i64 b3, .int .i64 b4, .int .i64 b5, .int .i64 b6, .int .i64 b7, .int .i64 b8, .int .i64 b9, .int .i64 b10]⟩) = some (.bool (seqB a0 b0 && ieq a1 b1 && ieq a2 b2 && ieq a3 b3 && ieq a4 b4 && ieq a5 b5 && ieq a6 b6 && ieq a7 b7 && ieq a8 b8 && ieq a9 b9 && ieq a10 b10)) := pr_of fun w => by
  have hg : Try.prog.eqGuardType Try.prog.depth 73 = false := by kernel_rfl
  simp only [binS, Sem.run_bind, run_eqGuard_agg _ _ _ _ _ _ _ hg, Result.andThen_ok, run_eql_struct]
  rw [run_equalIn_agg _ _ _ _ _ fo73 sh73]
  simp [Program.fieldsOf, Try.underlying3, Try.underlying71, Try.underlying73, Try.underlying9, Op.eqFields, Go.Fw.toList_beq, go_sem, run_equalIn_agg _ _ _ _ _ fo71 sh71, run_equalIn_agg _ _ _ _ _ fo71 sh71]
  by_cases h0 : a0 = b0 <;> by_cases h1 : a1 = b1 <;> by_cases h2 : a2 = b2 <;> by_cases h3 : a3 = b3 <;> by_cases h4 : a4 = b4 <;> by_cases h5 : a5 = b5 <;> by_cases h6 : a6 = b6 <;> by_cases h7 : a7 = b7 <;> by_cases h8 : a8 = b8 <;> by_cases h9 : a9 = b9 <;> by_cases h10 : a10 = b10 <;> simp [ieq, seqB, beqB, h0, h1, h2, h3, h4, h5, h6, h7, h8, h9, h10]
@[go_sem] theorem neS73 (x y : Operand) (a0 : ByteArray) (a1 : Int) (a2 : Int) (a3 : Int) (a4 : Int) (a5 : Int) (a6 : Int) (a7 : Int) (a8 : Int) (a9 : Int) (a10 : Int) (b0 : ByteArray) (b1 : Int) (b2 : Int) (b3 : Int) (b4 : Int) (b5 : Int) (b6 : Int) (b7 : Int) (b8 : Int) (b9 : Int) (b10 : Int) : binV Try.prog .neq 73 x y (.agg ⟨[.string a0, .int .i64 a1, .int .i64 a2, .int .i64 a3, .int .i64 a4, .int .i64 a5, .int .i64 a6, .int .i64 a7, .int .i64 a8, .int .i64 a9, .int .i64 a10]⟩) (.agg ⟨[.string b0, .int .i64 b1, .int .i64 b2, .int .i64 b3, .int .i64 b4, .int .i64 b5, .int .i64 b6, .int .i64 b7, .int .i64 b8, .int .i64 b9, .int .i64 b10]⟩) = some (.bool (!(seqB a0 b0 && ieq a1 b1 && ieq a2 b2 && ieq a3 b3 && ieq a4 b4 && ieq a5 b5 && ieq a6 b6 && ieq a7 b7 && ieq a8 b8 && ieq a9 b9 && ieq a10 b10))) := pr_of fun w => by
  have hg : Try.prog.eqGuardType Try.prog.depth 73 = false := by kernel_rfl
  simp only [binS, Sem.run_bind, run_eqGuard_agg _ _ _ _ _ _ _ hg, Result.andThen_ok, run_neq_struct]
  rw [run_equalIn_agg _ _ _ _ _ fo73 sh73]
  simp [Program.fieldsOf, Try.underlying3, Try.underlying71, Try.underlying73, Try.underlying9, Op.eqFields, Go.Fw.toList_beq, go_sem, run_equalIn_agg _ _ _ _ _ fo71 sh71, run_equalIn_agg _ _ _ _ _ fo71 sh71]
  by_cases h0 : a0 = b0 <;> by_cases h1 : a1 = b1 <;> by_cases h2 : a2 = b2 <;> by_cases h3 : a3 = b3 <;> by_cases h4 : a4 = b4 <;> by_cases h5 : a5 = b5 <;> by_cases h6 : a6 = b6 <;> by_cases h7 : a7 = b7 <;> by_cases h8 : a8 = b8 <;> by_cases h9 : a9 = b9 <;> by_cases h10 : a10 = b10 <;> simp [ieq, seqB, beqB, h0, h1, h2, h3, h4, h5, h6, h7, h8, h9, h10]
theorem fo76 : Try.prog.underlying 76 = some (.struct (Try.prog.fieldsOf 76)) := by kernel_rfl
theorem sh76 : Try.prog.stoodInHeld 76 = false := by kernel_rfl
@[go_sem] theorem eqS76 (x y : Operand) (a0 : Int) (a1 : Int) (a2 : Int) (a3 : Int) (a4 : Int) (a5 : Int) (a6 : Int) (b0 : Int) (b1 : Int) (b2 : Int) (b3 : Int) (b4 : Int) (b5 : Int) (b6 : Int) : binV Try.prog .eql 76 x y (.agg ⟨[.int .i64 a0, .int .i64 a1, .int .i64 a2, .int .i64 a3, .int .i64 a4, .int .i64 a5, .int .i64 a6]⟩) (.agg ⟨[.int .i64 b0, .int .i64 b1, .int .i64 b2, .int .i64 b3, .int .i64 b4, .int .i64 b5, .int .i64 b6]⟩) = some (.bool (ieq a0 b0 && ieq a1 b1 && ieq a2 b2 && ieq a3 b3 && ieq a4 b4 && ieq a5 b5 && ieq a6 b6)) := pr_of fun w => by
  have hg : Try.prog.eqGuardType Try.prog.depth 76 = false := by kernel_rfl
  simp only [binS, Sem.run_bind, run_eqGuard_agg _ _ _ _ _ _ _ hg, Result.andThen_ok, run_eql_struct]
  rw [run_equalIn_agg _ _ _ _ _ fo76 sh76]
  simp [Program.fieldsOf, Try.underlying3, Try.underlying76, Op.eqFields, Go.Fw.toList_beq, go_sem, fo76]
  by_cases h0 : a0 = b0 <;> by_cases h1 : a1 = b1 <;> by_cases h2 : a2 = b2 <;> by_cases h3 : a3 = b3 <;> by_cases h4 : a4 = b4 <;> by_cases h5 : a5 = b5 <;> by_cases h6 : a6 = b6 <;> simp [ieq, seqB, beqB, h0, h1, h2, h3, h4, h5, h6]
@[go_sem] theorem neS76 (x y : Operand) (a0 : Int) (a1 : Int) (a2 : Int) (a3 : Int) (a4 : Int) (a5 : Int) (a6 : Int) (b0 : Int) (b1 : Int) (b2 : Int) (b3 : Int) (b4 : Int) (b5 : Int) (b6 : Int) : binV Try.prog .neq 76 x y (.agg ⟨[.int .i64 a0, .int .i64 a1, .int .i64 a2, .int .i64 a3, .int .i64 a4, .int .i64 a5, .int .i64 a6]⟩) (.agg ⟨[.int .i64 b0, .int .i64 b1, .int .i64 b2, .int .i64 b3, .int .i64 b4, .int .i64 b5, .int .i64 b6]⟩) = some (.bool (!(ieq a0 b0 && ieq a1 b1 && ieq a2 b2 && ieq a3 b3 && ieq a4 b4 && ieq a5 b5 && ieq a6 b6))) := pr_of fun w => by
  have hg : Try.prog.eqGuardType Try.prog.depth 76 = false := by kernel_rfl
  simp only [binS, Sem.run_bind, run_eqGuard_agg _ _ _ _ _ _ _ hg, Result.andThen_ok, run_neq_struct]
  rw [run_equalIn_agg _ _ _ _ _ fo76 sh76]
  simp [Program.fieldsOf, Try.underlying3, Try.underlying76, Op.eqFields, Go.Fw.toList_beq, go_sem, fo76]
  by_cases h0 : a0 = b0 <;> by_cases h1 : a1 = b1 <;> by_cases h2 : a2 = b2 <;> by_cases h3 : a3 = b3 <;> by_cases h4 : a4 = b4 <;> by_cases h5 : a5 = b5 <;> by_cases h6 : a6 = b6 <;> simp [ieq, seqB, beqB, h0, h1, h2, h3, h4, h5, h6]
theorem fo184 : Try.prog.underlying 184 = some (.struct (Try.prog.fieldsOf 184)) := by kernel_rfl
theorem sh184 : Try.prog.stoodInHeld 184 = false := by kernel_rfl
@[go_sem] theorem eqS184 (x y : Operand) (a0 : ByteArray) (a1 : Int) (b0 : ByteArray) (b1 : Int) : binV Try.prog .eql 184 x y (.agg ⟨[.string a0, .int .i64 a1]⟩) (.agg ⟨[.string b0, .int .i64 b1]⟩) = some (.bool (seqB a0 b0 && ieq a1 b1)) := pr_of fun w => by
  have hg : Try.prog.eqGuardType Try.prog.depth 184 = false := by kernel_rfl
  simp only [binS, Sem.run_bind, run_eqGuard_agg _ _ _ _ _ _ _ hg, Result.andThen_ok, run_eql_struct]
  rw [run_equalIn_agg _ _ _ _ _ fo184 sh184]
  simp [Program.fieldsOf, Try.underlying184, Try.underlying3, Try.underlying9, Op.eqFields, Go.Fw.toList_beq, go_sem, fo184]
  by_cases h0 : a0 = b0 <;> by_cases h1 : a1 = b1 <;> simp [ieq, seqB, beqB, h0, h1]
@[go_sem] theorem neS184 (x y : Operand) (a0 : ByteArray) (a1 : Int) (b0 : ByteArray) (b1 : Int) : binV Try.prog .neq 184 x y (.agg ⟨[.string a0, .int .i64 a1]⟩) (.agg ⟨[.string b0, .int .i64 b1]⟩) = some (.bool (!(seqB a0 b0 && ieq a1 b1))) := pr_of fun w => by
  have hg : Try.prog.eqGuardType Try.prog.depth 184 = false := by kernel_rfl
  simp only [binS, Sem.run_bind, run_eqGuard_agg _ _ _ _ _ _ _ hg, Result.andThen_ok, run_neq_struct]
  rw [run_equalIn_agg _ _ _ _ _ fo184 sh184]
  simp [Program.fieldsOf, Try.underlying184, Try.underlying3, Try.underlying9, Op.eqFields, Go.Fw.toList_beq, go_sem, fo184]
  by_cases h0 : a0 = b0 <;> by_cases h1 : a1 = b1 <;> simp [ieq, seqB, beqB, h0, h1]
end Go.Fw
