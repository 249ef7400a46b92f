/- Trains: the table that the laws use. -/
import Derived.Test.YtiaeckidlmoohaaGreatTrainKnown
